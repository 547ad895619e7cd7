/-
  TYPES OF EXPRESSIONS: the walks of what reads the typer.
-/
import Derived.Test.YtmmfhcodhaemiaaTyAll
set_option linter.unusedSimpArgs false
namespace Go.Nt.Ty
open Go Go.Nt

/-- The typer, as it lies in the heap. -/
def tyO (m : Tm) (fl : Fl) (locs : List Tm) (a e : Int) (md : Nat) : Ob :=
  .cells true 9 0 md false [.agg [.int .i64 m.k, .int .i64 m.n, .str m.s, slE 6 m.fl (encTs m.l), .int .i64 m.a, .int .i64 m.b, slE 6 fl (encTs locs), .int .i64 a, .int .i64 e]]

abbrev z6 : List D := [.int .i64 0, .int .i64 0, .str [], .nils, .int .i64 0, .int .i64 0]

theorem l18 (d : Tm) (st : St) (hl : d.l.length ≤ 9223372036854775807) :
    ∀ (r i : Nat) (s : List D) (bx : List (Nat × List D)), r = d.l.length - i → i ≤ d.l.length → get s 6 = .lp 6 1 0 → getB bx 6 = (1, z6) → get s 8 = .lp 8 1 0 → getB bx 8 = (1, clT d) →
    get s 77 = slE 6 d.fl (encTs d.l) → get s 78 = .i d.l.length → get s 79 = .int .i64 i →
    Stops (lp T L18_0 ⟨⟨s, bx⟩, st⟩) fun e s' b' st' => st' = st ∧ get s' 6 = .lp 6 1 0 ∧ getB b' 6 = (1, z6) ∧ (if (d.l.drop i).any badPart then e = .ret ∧ get s' 7 = .bool false else e = .exit 1 ∧ get s' 8 = .lp 8 1 0 ∧ getB b' 8 = (1, clT d)) := by
  intro r
  induction r with
  | zero =>
    intro i s bx hr hi h6 b6 h8 b8 h77 h78 h79
    have e : i = d.l.length := by omega
    subst e
    rw [lp_kL, L18_0, List.drop_length]
    simp [h6, b6, h8, b8, h77, h78, h79]
  | succ r ihr =>
    intro i s bx hr hi h6 b6 h8 b8 h77 h78 h79
    have hlt : i < d.l.length := by omega
    have hw : IntKind.wrap .i64 ((i : Int) + 1) = i + 1 := by rw [wrap64] <;> omega
    have q : (d.l.drop i).any badPart = (badPart d.l[i] || (d.l.drop (i + 1)).any badPart) := by rw [List.drop_eq_getElem_cons hlt, List.any_cons]
    rw [q, badPart]
    rw [lp_kL, L18_0]
    by_cases hk : d.l[i].k = 34
    · by_cases hn : d.l[i].l.length = 1
      · have nx := ihr (i + 1)
        simp only [hk, hn, ne_eq, not_true_eq_false, decide_false, Bool.false_or]
        simp [h6, b6, h8, b8, h77, h78, h79, hlt, hw, hk, hn, -List.any_eq_true]
        rw [← L18_0]
        refine nx _ _ (by omega) (by omega) ?_ ?_ ?_ ?_ ?_ ?_ ?_
        iterate 7 simp [h6, b6, h8, b8, h77, h78]
      · simp [h6, b6, h8, b8, h77, h78, h79, hlt, hw, hk, hn]
    · simp [h6, b6, h8, b8, h77, h78, h79, hlt, hw, hk]

variable {m : Tm} {fl : Fl} {locs : List Tm} {at0 e0 : Int} {md : Nat}

theorem c18 {st : St} (h0 : St.at st 0 = tyO m fl locs at0 e0 md) (hl : ∀ d, d ∈ m.l → d.l.length ≤ 1000000) (n kind : Int) :
    callD T (ev T) 18 [.hp 0 0 9 0 0, .int .i64 n, .int .i64 kind] st = some (.tup [encT (declT m n kind).1, .bool (declT m n kind).2], st) := by
  refine callD_pop (fn := F18) (r := .tup [encT (declT m n kind).1, .bool (declT m n kind).2]) (st1 := st) (st2 := st) rfl rfl (by simp) ?_ (by simp) (by simp) (by simp)
  rw [ev_eq 18 F18 rfl, F18]
  unfold declT
  by_cases g : 0 ≤ n ∧ n < m.l.length
  · have g1 : ¬ n < 0 := by omega
    have g2 : ¬ (m.l.length : Int) ≤ n := by omega
    have g3 : n.toNat < m.l.length := by omega
    have hd := hl _ (List.getElem_mem g3)
    rw [dif_pos g]
    by_cases hk : (m.l[n.toNat]).k = kind
    · subst hk
      by_cases k31 : (m.l[n.toNat]).k = 31
      · match hx : (m.l[n.toNat]).l with
        | [] =>
          simp [h0, tyO, g1, g2, g3, k31, hx]
          rw [encT_eq (m.l[n.toNat]), k31, hx]; simp
        | x :: y :: l =>
          simp [h0, tyO, g1, g2, g3, k31, hx]
          rw [encT_eq (m.l[n.toNat]), k31, hx]; simp
        | [x] =>
          have h19 := c19 x st
          rw [encT_eq (litT x)] at h19
          by_cases hz : (litT x).k = 0
          · simp [h0, tyO, g1, g2, g3, k31, hx, ← encT_eq x, h19, hz]
            rw [encT_eq (m.l[n.toNat]), k31, hx]; simp
          · simp [h0, tyO, g1, g2, g3, k31, hx, ← encT_eq x, h19, hz]
            rw [encT_eq (m.l[n.toNat]), k31, hx]; simp
      · by_cases k32 : (m.l[n.toNat]).k = 32
        · simp [h0, tyO, g1, g2, g3, k32]
          rw [encT_eq (m.l[n.toNat]), k32]
        · by_cases k33 : (m.l[n.toNat]).k = 33
          · simp [h0, tyO, g1, g2, g3, k33]
            rw [encT_eq (m.l[n.toNat]), k33]
          · simp [h0, tyO, g1, g2, g3, k31, k32, k33, -List.any_eq_true]
            refine (l18 (m.l[n.toNat]) st (by omega) _ 0 _ _ rfl (by omega) ?_ ?_ ?_ ?_ ?_ ?_ ?_).use (fun r => kfin _ (kseq _ (kblock 1 r)) = _) ?_
            iterate 7 simp
            rintro e s' b' st ⟨rfl, q6, p6, h⟩
            cases ha : (m.l[n.toNat]).l.any badPart with
            | true =>
              rw [List.drop_zero, ha] at h
              simp at h
              obtain ⟨rfl, h7⟩ := h
              simp [q6, p6, h7, encT_K]
            | false =>
              rw [List.drop_zero, ha] at h
              simp at h
              obtain ⟨rfl, q8, p8⟩ := h
              simp [q6, p6, q8, p8, ← encT_eq]
    · simp [h0, tyO, g1, g2, g3, hk, encT_K]
  · rw [dif_neg g]
    by_cases g1 : n < 0
    · simp [h0, tyO, g1, encT_K]
    · have g2 : (m.l.length : Int) ≤ n := by omega
      simp [h0, tyO, g1, g2, encT_K]


theorem litT_if (t : Tm) : (litT t).k ≠ 0 → True := fun _ => trivial

theorem localT_some {locs : List Tm} {n : Int} (h : 0 ≤ n ∧ n < locs.length) : localT locs n = some (locs[locs.length - 1 - n.toNat]'(by omega)) := by
  rw [localT, if_pos h]; exact List.getElem?_eq_getElem _

theorem c15 {st : St} (h0 : St.at st 0 = tyO m fl locs at0 e0 md) (hl : ∀ d, d ∈ m.l → d.l.length ≤ 1000000) (hlo : locs.length ≤ 1000000) (t : Tm) :
    callD T (ev T) 15 [.hp 0 0 9 0 0, encT t] st = some (.tup [encT (namedT m locs t).1, .bool (namedT m locs t).2], st) := by
  refine callD_pop (fn := F15) (r := .tup [encT (namedT m locs t).1, .bool (namedT m locs t).2]) (st1 := st) (st2 := st) rfl rfl (by simp) ?_ (by simp) (by simp) (by simp)
  rw [ev_eq 15 F15 rfl, F15]
  unfold namedT
  by_cases h7 : t.k = 7
  · by_cases g : 0 ≤ t.n ∧ t.n < locs.length
    · have g1 : ¬ t.n < 0 := by omega
      have g2 : ¬ (locs.length : Int) ≤ t.n := by omega
      have w1 : IntKind.wrap .i64 ((locs.length : Int) - 1) = locs.length - 1 := by rw [wrap64] <;> omega
      have w2 : IntKind.wrap .i64 ((locs.length : Int) - 1 - t.n) = locs.length - 1 - t.n := by rw [wrap64] <;> omega
      have w3 : ¬ (locs.length : Int) - 1 - t.n < 0 := by omega
      have w4 : ((locs.length : Int) - 1 - t.n).toNat = locs.length - 1 - t.n.toNat := by omega
      have w5 : locs.length - 1 - t.n.toNat < locs.length := by omega
      simp [h0, tyO, h7, g1, g2, w1, w2, w3, w4, w5, localT_some g]
      rw [encT_eq]
    · by_cases g1 : t.n < 0
      · have e : localT locs t.n = none := by rw [localT, if_neg g]
        simp [h0, tyO, h7, g1, e, encT_K]
      · have g2 : (locs.length : Int) ≤ t.n := by omega
        have e : localT locs t.n = none := by rw [localT, if_neg g]
        simp [h0, tyO, h7, g1, g2, e, encT_K]
  by_cases h8 : t.k = 8
  · have d := c18 h0 hl t.n 31
    rw [encT_eq (declT m t.n 31).1] at d
    cases hd : (declT m t.n 31).2 with
    | false => rw [hd] at d; simp [h8, d, hd, encT_K]
    | true =>
      have hx : ∃ x, (declT m t.n 31).1.l = [x] := by
        unfold declT at hd ⊢
        split at hd
        · next g =>
          rw [dif_pos g]
          split at hd
          · next hk =>
            rw [if_pos hk]
            simp at hd ⊢
            exact List.length_eq_one_iff.1 hd.1
          · cases hd
        · cases hd
      obtain ⟨x, hx⟩ := hx
      have h19 := c19 x st
      rw [hd, hx] at d
      simp [h8, d, hd, hx, ← encT_eq x, h19]
      rw [encT_eq (litT x)]
  by_cases h9 : t.k = 9
  · have d := c18 h0 hl t.n 32
    rw [encT_eq (declT m t.n 32).1] at d
    cases hd : (declT m t.n 32).2 with
    | false => rw [hd] at d; simp [h9, d, hd, encT_K]
    | true =>
      have hx : ∃ x, (declT m t.n 32).1.l = [x] := by
        unfold declT at hd ⊢
        split at hd
        · next g =>
          rw [dif_pos g]
          split at hd
          · next hk =>
            rw [if_pos hk]
            simp at hd ⊢
            exact List.length_eq_one_iff.1 hd
          · cases hd
        · cases hd
      obtain ⟨x, hx⟩ := hx
      rw [hd, hx] at d
      simp [h9, d, hd, hx]
      rw [encT_eq x]
  by_cases h15 : t.k = 15
  · have d := c18 h0 hl t.n 30
    simp [h15, d, ← encT_eq]
  by_cases h16 : t.k = 16
  · have d := c18 h0 hl t.n 33
    simp [h16, d, ← encT_eq]
  by_cases h17 : t.k = 17
  · simp [h17, encT_K]
  simp [h7, h8, h9, h15, h16, h17, encT_K]

theorem byName_up (s : List UInt8) : ∀ (l : List Tm) (i : Nat), byName s i l = none ∨ ∃ j f, byName s i l = some (j, f) ∧ i ≤ j ∧ j < 64 ∧ ∃ p, l[j - i]? = some p ∧ p.s = s ∧ f = p.l.headD T0 := by
  intro l
  induction l with
  | nil => intro i; exact .inl rfl
  | cons p l ih =>
    intro i
    rw [byName]
    by_cases h : p.s = s ∧ i < 64
    · rw [if_pos h]
      exact .inr ⟨i, _, rfl, Nat.le_refl _, h.2, p, by simp, h.1, rfl⟩
    · rw [if_neg h]
      rcases ih (i + 1) with q | ⟨j, f, q1, q2, q3, p', q4, q5, q6⟩
      · exact .inl q
      · refine .inr ⟨j, f, q1, by omega, q3, p', ?_, q5, q6⟩
        rw [show j - i = (j - (i + 1)) + 1 by omega, List.getElem?_cons_succ]; exact q4

end Go.Nt.Ty
