/-
  THE SIMULATION OF SLICING, OF CONVERSIONS, OF A MAP's LOOK-UP, OF FIELDS AND ELEMENTS OF VALUES.
  No condition: lemmas.
-/
import Derived.Test.YtpfdoelhoiohdaaNtOps2
namespace Go.Nt

variable {P : Program} {X : Cx} {c : Cfg} {bl : Bl} {lb : Nat → Nat} {a : Act} {w : World}

def BoundV (x : Option Value) (dflt top r : Nat) : Prop := (x = none ∧ r = dflt) ∨ ∃ k i, x = some (.int k i) ∧ 0 ≤ i ∧ i ≤ top ∧ r = i.toNat

theorem bound_v (C : CR X c bl lb a w) {x : Option Operand} {y : Option Opd} (h : opdO x y = true) {dflt top r : Nat} (hb : boundD (y.map (Opd.ev c.1.s)) dflt top = some r) : BoundV (x.map a.eval) dflt top r := by
  cases x <;> cases y <;> simp only [opdO] at h <;> first | contradiction | skip
  · simp [boundD] at hb; exact .inl ⟨rfl, hb.symm⟩
  · rename_i x y
    simp only [Option.map_some, boundD] at hb
    split at hb
    · rename_i heq; simp at heq
    · rename_i k i heq
      simp at heq
      split at hb
      · rename_i hi
        simp at hb
        exact .inr ⟨k, i, by simp [sr_int C h heq], hi.1, hi.2, hb.symm⟩
      · simp at hb
    · simp at hb

theorem sb_run {k : IntKind} {i : Int} {y : Nat} {code : BoundsCode} (h0 : 0 ≤ i) (h1 : i ≤ y) : (Instr.sliceBound (.int k i) y code).run P w = .ok i.toNat w := by
  simp [Instr.sliceBound, asIntOf, h0, h1]

theorem BoundV.le {x : Option Value} {dflt top r : Nat} (h : BoundV x dflt top r) (hd : dflt ≤ top) : r ≤ top := by
  rcases h with ⟨_, rfl⟩ | ⟨_, i, _, h0, h1, rfl⟩
  · exact hd
  · omega

theorem bounds_run {isS : Bool} {len cap : Nat} {lo hi mx : Option Value} {l h m t : Nat} (hm : BoundV mx cap cap m) (hh : BoundV hi len t h) (hl : BoundV lo 0 h l) (ht : t ≤ m) (hx : mx ≠ none → hi ≠ none) :
    (Instr.sliceBounds isS len cap lo hi mx).run P w = .ok (l, h, m) w := by
  rcases hm with ⟨rfl, rfl⟩ | ⟨k1, i1, rfl, a1, a2, rfl⟩
  · rcases hh with ⟨rfl, rfl⟩ | ⟨k2, i2, rfl, b1, b2, rfl⟩
    · rcases hl with ⟨rfl, rfl⟩ | ⟨k3, i3, rfl, c1, c2, rfl⟩
      · simp [Instr.sliceBounds]
      · simp [Instr.sliceBounds, sb_run c1 c2]
    · have b3 : i2 ≤ (m : Int) := by omega
      rcases hl with ⟨rfl, rfl⟩ | ⟨k3, i3, rfl, c1, c2, rfl⟩
      · simp [Instr.sliceBounds, sb_run b1 b3]
      · simp [Instr.sliceBounds, sb_run b1 b3, sb_run c1 c2]
  · rcases hh with ⟨rfl, rfl⟩ | ⟨k2, i2, rfl, b1, b2, rfl⟩
    · exact absurd rfl (hx (by simp))
    · have b3 : i2 ≤ (i1.toNat : Int) := by omega
      rcases hl with ⟨rfl, rfl⟩ | ⟨k3, i3, rfl, c1, c2, rfl⟩
      · simp [Instr.sliceBounds, sb_run a1 a2, sb_run b1 b3]
      · simp [Instr.sliceBounds, sb_run a1 a2, sb_run b1 b3, sb_run c1 c2]

def slcOK (P : Program) (t : TypeId) : Option Nat → Bool
  | none => kindOK P t .str
  | some sz => match P.underlying t with | some (.slice e) => sizeOK P e sz | _ => false

theorem sliceAt_slice {t e : TypeId} {sz len cap l h m : Nat} {p : Option Addr} {lo hi mx : Option Value} (hu : P.underlying t = some (.slice e)) (hs : sizeOK P e sz = true)
    (hb : (Instr.sliceBounds true len cap lo hi mx).run P w = .ok (l, h, m) w) : (Instr.sliceAt t (.slice p len cap) lo hi mx).run P w = .ok (.slice (if m = l then p else p.map (·.add (l * sz))) (h - l) (m - l)) w := by
  simp [Instr.sliceAt, run_underlying hu, Instr.slice, hb, size_run hs w]

theorem bind3 {α β γ δ : Type} {x : Option α} {f : α → Option β} {g : α → β → Option γ} {k : α → β → γ → δ} {d : δ} (h : (x.bind fun m => (f m).bind fun h => (g m h).bind fun l => some (k m h l)) = some d) :
    ∃ m h' l, x = some m ∧ f m = some h' ∧ g m h' = some l ∧ d = k m h' l := by
  cases x with
  | none => simp at h
  | some m =>
    cases hf : f m with
    | none => simp [hf] at h
    | some h' =>
      cases hg : g m h' with
      | none => simp [hf, hg] at h
      | some l => simp [hf, hg] at h; exact ⟨m, h', l, rfl, hf, hg, h.symm⟩
theorem bind2 {β γ δ : Type} {x : Option β} {g : β → Option γ} {k : β → γ → δ} {d : δ} (h : (x.bind fun h => (g h).bind fun l => some (k h l)) = some d) :
    ∃ h' l, x = some h' ∧ g h' = some l ∧ d = k h' l := by
  cases x with
  | none => simp at h
  | some m =>
    cases hg : g m with
    | none => simp [hg] at h
    | some l => simp [hg] at h; exact ⟨m, l, rfl, hg, h.symm⟩

theorem sl_cut {N : Nat → Prop} {st : St} {sz : Nat} {full full' : Bool} {ds : List D} {p : Addr} {cap l h m : Nat} (hr : Rep w N st bl (.slice (some p) ds.length cap) (.sl sz full ds)) (h1 : l ≤ h) (h2 : h ≤ ds.length) (h3 : h ≤ m)
    (hf : full' = true → m = h) : Rep w N st bl (.slice (if m = l then some p else (some p).map (·.add (l * sz))) (h - l) (m - l)) (.sl sz full' ((ds.take h).drop l)) := by
  generalize hlen : ds.length = len at hr
  cases hr with
  | sl _ _ _ _ _ vs hc hfull hs hp hm hrep =>
    have hll : ((ds.take h).drop l).length = h - l := by simp; omega
    have hget : ∀ (i : Nat) (d : D), ((ds.take h).drop l)[i]? = some d → ds[l + i]? = some d ∧ l + i < h := by
      intro i d hd
      rw [List.getElem?_drop, List.getElem?_take] at hd
      split at hd
      · exact ⟨hd, by assumption⟩
      · simp at hd
    have hspot : (ds.take h).drop l ≠ [] → p.spot = none := fun hn => hs fun e => by subst e; simp at hn
    have key : ∀ q : Addr, ((ds.take h).drop l ≠ [] → q = ⟨p.block, p.off + l * sz, none⟩) → Rep w N st bl (.slice (some q) (h - l) (m - l)) (.sl sz full' ((ds.take h).drop l)) := by
      intro q hq
      rw [← hll]
      refine .sl sz full' _ q (m - l) (fun i => vs (l + i)) (by omega) (fun e => by rw [hll, hf e]) (fun hn => by rw [hq hn]) (fun i d hd => hp _ _ (hget i d hd).1) (fun i d hd => ?_) (fun i d hd => hrep _ _ (hget i d hd).1)
      have hn : (ds.take h).drop l ≠ [] := fun e => by rw [e] at hd; simp at hd
      rw [hq hn]
      have := hm _ _ (hget i d hd).1
      rw [show p.off + l * sz + i * sz = p.off + (l + i) * sz by rw [Nat.add_mul]; omega]
      exact this
    split
    · refine key p fun hn => absurd ?_ hn
      apply List.eq_nil_of_length_eq_zero; omega
    · simp only [Option.map_some]
      exact key _ fun hn => add_eq p _ (hspot hn)

theorem rs_cut {N : Nat → Prop} {st : St} {id ver sz off len : Nat} {full full' : Bool} {v : Value} {l h m : Nat} (hr : Rep w N st bl v (.rs id ver sz off len full)) (h1 : l ≤ h) (h3 : h ≤ m)
    (hf : full' = true → m = h) : ∃ p cap, v = .slice (some p) len cap ∧ len ≤ cap ∧ (full = true → cap = len) ∧
      (m ≤ cap → Rep w N st bl (.slice (if m = l then some p else (some p).map (·.add (l * sz))) (h - l) (m - l)) (.rs id ver sz (off + l) (h - l) full')) := by
  cases hr with
  | rs _ _ _ _ _ _ p cap hid hv hc hfull ha =>
    refine ⟨p, cap, rfl, hc, hfull, fun hm => ?_⟩
    have key : ∀ q : Addr, (m - l ≠ 0 → cap ≠ 0 → p.spot = none → q = ⟨p.block, p.off + l * sz, none⟩) → Rep w N st bl (.slice (some q) (h - l) (m - l)) (.rs id ver sz (off + l) (h - l) full') := by
      intro q hq
      refine .rs id ver sz (off + l) (h - l) full' q (m - l) hid hv (by omega) (fun e => by rw [hf e]) (fun e => ?_)
      obtain ⟨ha1, c0, e0, f0, hc0, hroom⟩ := ha e
      refine ⟨fun hz => ?_, c0, e0, f0, hc0, ?_⟩
      · have hp := ha1 (by omega)
        rw [hq hz (by omega) (by rw [hp]), hp, Nat.add_mul]
      · refine Nat.le_trans (Nat.mul_le_mul_right sz ?_) hroom
        omega
    split
    · exact key p fun hz => absurd (by omega) hz
    · simp only [Option.map_some]
      exact key _ fun _ _ hs => add_eq p _ hs

theorem sim_slc (C : CR X c bl lb a w) {o : Oper} {t : TypeId} {x : Operand} {x' : Opd} {lo hi mx : Option Operand} {lo' hi' mx' : Option Opd} {s : Option Nat} (ho : o.op = .slice t x lo hi mx) (h1 : opdOK x x' = true)
    (k1 : opdO lo lo' = true) (k2 : opdO hi hi' = true) (k3 : opdO mx mx' = true) (ht : slcOK P t s = true)
    (hty : slcTy s (x'.ev c.1.s) = true) {d : D}
    (hd : sliceD (x'.ev c.1.s) (lo'.map (Opd.ev c.1.s)) (hi'.map (Opd.ev c.1.s)) (mx'.map (Opd.ev c.1.s)) = some d) : GivesV P X c bl lb a w o d := by
  have r := opd_rep C h1
  have he : execOp a.eval o = (do pure (.value (← Instr.sliceAt t (a.eval x) (lo.map a.eval) (hi.map a.eval) (mx.map a.eval)))) := by simp [execOp, ho]
  have hxx : mx.map a.eval ≠ none → (mx'.map (Opd.ev c.1.s)) ≠ none := by cases mx <;> cases mx' <;> simp_all [opdO]
  have hhi : (hi'.map (Opd.ev c.1.s)) ≠ none → hi.map a.eval ≠ none := by cases hi <;> cases hi' <;> simp_all [opdO]
  unfold sliceD at hd
  split at hd
  · rename_i str hx
    rw [hx] at hty
    obtain rfl : s = none := by cases s <;> simp_all [slcTy]
    have hu : P.underlying t = some .string := by
      simp only [slcOK, kindOK] at ht; split at ht <;> simp_all
    obtain ⟨z, e1, q1⟩ := sr_str C h1 hx
    split at hd
    · simp at hd
    · rename_i hmx
      obtain ⟨h', l, e2, e3, rfl⟩ := bind2 hd
      have hm0 : mx.map a.eval = none := by
        rcases Decidable.em (mx.map a.eval = none) with g | g
        · exact g
        · exact absurd hmx (hxx g)
      have hz : z.size = str.length := by rw [← q1]; simp
      have b2 := bound_v C k2 e2
      have b3 := bound_v C k1 e3
      have hr := bounds_run (P := P) (w := w) (isS := false) (len := str.length) (cap := str.length) (mx := none) (.inl ⟨rfl, rfl⟩) b2 b3 (Nat.le_refl _) (by simp)
      have hle := b2.le (Nat.le_refl _)
      refine gv (rep_str (z.extract l h') ?_) ?_
      · rw [ByteArray.data_extract, Array.toList_extract, List.extract_eq_take_drop, q1, List.drop_take]
      · rw [he, hm0, e1]
        simp [Instr.sliceAt, run_underlying hu, Instr.slice, hz, hr]
  · rename_i hx
    rw [hx] at hty r
    cases s with
    | none => simp [slcTy] at hty
    | some sz =>
      have hu : ∃ e, P.underlying t = some (.slice e) ∧ sizeOK P e sz = true := by
        simp only [slcOK] at ht; split at ht
        · exact ⟨_, by assumption, ht⟩
        · simp at ht
      obtain ⟨e, hu, hsz⟩ := hu
      split at hd
      · simp at hd
      · rename_i hcon
        obtain ⟨m, h', l, e1, e2, e3, rfl⟩ := bind3 hd
        generalize a.eval x = y at *
        cases (show Rep w (NX X c bl lb) c.2 bl y .nils from r)
        have b1 := bound_v C k3 e1
        have b2 := bound_v C k2 e2
        have b3 := bound_v C k1 e3
        have z1 := b1.le (Nat.le_refl _)
        have z2 := b2.le (Nat.zero_le _)
        have z3 := b3.le (Nat.zero_le _)
        obtain rfl : m = 0 := by omega
        obtain rfl : h' = 0 := by omega
        obtain rfl : l = 0 := by omega
        have hr := bounds_run (P := P) (w := w) (isS := true) b1 b2 b3 (Nat.le_refl _) (fun g => by
          have g' := hxx g
          refine hhi fun q => ?_
          cases hq : mx'.map (Opd.ev c.1.s) with
          | none => exact g' hq
          | some m0 => exact hcon m0 hq q)
        refine gv .nils ?_
        rw [he]
        simp [sliceAt_slice hu hsz hr]
  · rename_i sz full ds hx
    rw [hx] at hty r
    obtain rfl : s = some sz := by cases s <;> simp_all [slcTy]
    have hu : ∃ e, P.underlying t = some (.slice e) ∧ sizeOK P e sz = true := by
      simp only [slcOK] at ht; split at ht
      · exact ⟨_, by assumption, ht⟩
      · simp at ht
    obtain ⟨e, hu, hsz⟩ := hu
    obtain ⟨p, cap, hv, hcap, hfull⟩ : ∃ p cap, a.eval x = .slice (some p) ds.length cap ∧ ds.length ≤ cap ∧ (full = true → cap = ds.length) := by
      generalize a.eval x = y at *
      cases (show Rep w (NX X c bl lb) c.2 bl y (.sl sz full ds) from r)
      exact ⟨_, _, rfl, by assumption, by assumption⟩
    have r' : RR X c bl lb w (.slice (some p) ds.length cap) (.sl sz full ds) := by rw [← hv]; exact r
    split at hd
    · simp at hd
    · rename_i m0 h0 hmx hhx
      obtain ⟨m, h', l, e1, e2, e3, rfl⟩ := bind3 hd
      rw [← hmx] at e1
      have b1 := bound_v C k3 e1
      have b2 := bound_v C k2 e2
      have b3 := bound_v C k1 e3
      have b2' : BoundV (hi.map a.eval) ds.length m h' := by
        rcases b2 with ⟨g, _⟩ | g
        · exact absurd g (hhi (by rw [hhx]; simp))
        · exact .inr g
      have b1' : BoundV (mx.map a.eval) cap cap m := by
        rcases b1 with ⟨g, _⟩ | ⟨k, i, g1, g2, g3, g4⟩
        · have : mx'.map (Opd.ev c.1.s) = none := by cases mx <;> cases mx' <;> simp_all [opdO]
          rw [this] at hmx; simp at hmx
        · exact .inr ⟨k, i, g1, g2, by omega, g4⟩
      have z1 : m ≤ ds.length := b1.le (Nat.zero_le _)
      have z2 : h' ≤ m := by
        rcases b2' with ⟨g, _⟩ | ⟨_, i, _, g2, g3, rfl⟩
        · exact absurd g (hhi (by rw [hhx]; simp))
        · omega
      have z3 := b3.le (Nat.zero_le _)
      have hr := bounds_run (P := P) (w := w) (isS := true) b1' b2' b3 (Nat.le_refl _) (fun _ => hhi (by rw [hhx]; simp))
      refine gv (sl_cut (m := m) r' z3 (by omega) z2 (by simp)) ?_
      rw [he, hv]
      simp only [Sem.run_bind, sliceAt_slice hu hsz hr, Result.andThen_ok, Sem.run_pure]
    · rename_i hmx
      obtain ⟨h', l, e2, e3, rfl⟩ := bind2 hd
      have b2 := bound_v C k2 e2
      have b3 := bound_v C k1 e3
      have hm0 : mx.map a.eval = none := by
        rcases Decidable.em (mx.map a.eval = none) with g | g
        · exact g
        · exact absurd hmx (hxx g)
      have z2 := b2.le (Nat.le_refl _)
      have z3 := b3.le (Nat.zero_le _)
      have hr := bounds_run (P := P) (w := w) (isS := true) (cap := cap) (mx := none) (.inl ⟨rfl, rfl⟩) b2 b3 hcap (by simp)
      refine gv (sl_cut (m := cap) r' z3 z2 (by omega) (by simp; intro g1 g2; rw [hfull g1, g2])) ?_
      rw [he, hv, hm0]
      simp only [Sem.run_bind, sliceAt_slice hu hsz hr, Result.andThen_ok, Sem.run_pure]
  · rename_i id ver sz off len full hx
    rw [hx] at hty r
    obtain rfl : s = some sz := by cases s <;> simp_all [slcTy]
    have hu : ∃ e, P.underlying t = some (.slice e) ∧ sizeOK P e sz = true := by
      simp only [slcOK] at ht; split at ht
      · exact ⟨_, by assumption, ht⟩
      · simp at ht
    obtain ⟨e, hu, hsz⟩ := hu
    split at hd
    · simp at hd
    · rename_i m0 h0 hmx hhx
      obtain ⟨m, h', l, e1, e2, e3, rfl⟩ := bind3 hd
      rw [← hmx] at e1
      have b1 := bound_v C k3 e1
      have b2 := bound_v C k2 e2
      have b3 := bound_v C k1 e3
      have b2' : BoundV (hi.map a.eval) len m h' := by
        rcases b2 with ⟨g, _⟩ | g
        · exact absurd g (hhi (by rw [hhx]; simp))
        · exact .inr g
      have z1 : m ≤ len := b1.le (Nat.zero_le _)
      have z2 : h' ≤ m := by
        rcases b2' with ⟨g, _⟩ | ⟨_, i, _, g2, g3, rfl⟩
        · exact absurd g (hhi (by rw [hhx]; simp))
        · omega
      have z3 := b3.le (Nat.zero_le _)
      obtain ⟨p, cap, hv, hcap, hfull, hres⟩ := rs_cut (l := l) (h := h') (m := m) (full' := m == h') (show Rep w (NX X c bl lb) c.2 bl (a.eval x) (.rs id ver sz off len full) from r) z3 z2 (by simp)
      have b1' : BoundV (mx.map a.eval) cap cap m := by
        rcases b1 with ⟨g, _⟩ | ⟨k, i, g1, g2, g3, g4⟩
        · have : mx'.map (Opd.ev c.1.s) = none := by cases mx <;> cases mx' <;> simp_all [opdO]
          rw [this] at hmx; simp at hmx
        · exact .inr ⟨k, i, g1, g2, by omega, g4⟩
      have hr := bounds_run (P := P) (w := w) (isS := true) b1' b2' b3 (Nat.le_refl _) (fun _ => hhi (by rw [hhx]; simp))
      refine gv (hres (by omega)) ?_
      rw [he, hv]
      simp only [Sem.run_bind, sliceAt_slice hu hsz hr, Result.andThen_ok, Sem.run_pure]
    · rename_i hmx
      obtain ⟨h', l, e2, e3, rfl⟩ := bind2 hd
      have b2 := bound_v C k2 e2
      have b3 := bound_v C k1 e3
      have hm0 : mx.map a.eval = none := by
        rcases Decidable.em (mx.map a.eval = none) with g | g
        · exact g
        · exact absurd hmx (hxx g)
      have z2 := b2.le (Nat.le_refl _)
      have z3 := b3.le (Nat.zero_le _)
      obtain ⟨p, cap, hv, hcap, hfull, _⟩ := rs_cut (l := l) (h := h') (m := h') (full' := true) (show Rep w (NX X c bl lb) c.2 bl (a.eval x) (.rs id ver sz off len full) from r) z3 (Nat.le_refl _) (by simp)
      obtain ⟨p', cap', hv', _, _, hres⟩ := rs_cut (l := l) (h := h') (m := cap) (full' := full && h' == len) (show Rep w (NX X c bl lb) c.2 bl (a.eval x) (.rs id ver sz off len full) from r) z3 (by omega) (by simp; intro g1 g2; rw [hfull g1, g2])
      rw [hv] at hv'
      simp at hv'
      obtain ⟨rfl, rfl⟩ := hv'
      have hr := bounds_run (P := P) (w := w) (isS := true) (cap := cap) (mx := none) (.inl ⟨rfl, rfl⟩) b2 b3 hcap (by simp)
      refine gv (hres (Nat.le_refl _)) ?_
      rw [he, hv, hm0]
      simp only [Sem.run_bind, sliceAt_slice hu hsz hr, Result.andThen_ok, Sem.run_pure]
  · simp at hd

end Go.Nt
