/-
  LINKED OUTCOMES: what both 'Agree' say, and that it is the same; the law LinkAgrees, walked.
  No condition.
-/
import Derived.Test.YtpfdoelhoiohdaaLkIr
set_option linter.unusedSimpArgs false
namespace Go.Nt.Lk
open Go Go.Nt

abbrev encI (l : List Int) : List D := l.map (.int .i64)

def _root_.Go.Nt.Fl.upto (fl : Fl) (ds : List D) (i : Nat) : Fl :=
  match fl, ds with
  | .nil, [] => .nil
  | .emp, [] => .full
  | .full, _ => if i = ds.length then .full else .part
  | _, _ => .part

theorem slE_to (sz : Nat) (fl : Fl) (ds : List D) (k : IntKind) (i : Nat) (h' : i ≤ ds.length) : sliceD (slE sz fl ds) none (some (.int k i)) none = some (slE sz (fl.upto ds i) (ds.take i)) := by
  have h2 : (0 : Int) ≤ i := by omega
  have h3 : (i : Int) ≤ ds.length := by omega
  by_cases e : i = ds.length
  · subst e
    have hh : ∀ n : Nat, (0 ≤ (n : Int) + 1) = True := fun n => eq_true (by omega)
    cases fl <;> cases ds <;> simp [sliceD, slE, Fl.upto, hh]
  · have e' : (i == ds.length) = false := by simp [e]
    cases fl <;> cases ds <;> simp_all [sliceD, slE, Fl.upto]

theorem l51 (a b : List Int) (fl fl' : Fl) (hl : a.length = b.length) (hb : a.length ≤ 9223372036854775807) :
    ∀ (r i : Nat) (s : List D) (bx : List (Nat × List D)), r = a.length - i → i ≤ a.length → get s 0 = slE 1 fl (encI a) → get s 1 = slE 1 fl' (encI b) → get s 12 = .i a.length → get s 13 = .int .i64 i →
    Stops (lp T L51_0 ⟨⟨s, bx⟩, []⟩) fun e s' _ st' => st' = [] ∧ e = (if a.drop i = b.drop i then .exit 0 else .ret) ∧ (a.drop i ≠ b.drop i → get s' 4 = .bool false) := by
  intro r
  induction r with
  | zero =>
    intro i s bx hr hi h0 h1 h12 h13
    have e : i = a.length := by omega
    subst e
    rw [lp_kL, L51_0]
    have q : a.drop a.length = b.drop a.length := by rw [List.drop_length, hl, List.drop_length]
    rw [if_pos q]
    simp [h0, h1, h12, h13, q]
  | succ r ihr =>
    intro i s bx hr hi h0 h1 h12 h13
    rw [lp_kL, L51_0]
    have hlt : i < a.length := by omega
    have hlt' : i < b.length := by omega
    have hw : IntKind.wrap .i64 ((i : Int) + 1) = i + 1 := by rw [wrap64] <;> omega
    have q : (a.drop i = b.drop i) = (a[i] = b[i] ∧ a.drop (i + 1) = b.drop (i + 1)) := by
      rw [List.drop_eq_getElem_cons hlt, List.drop_eq_getElem_cons hlt', List.cons.injEq]
    simp only [ne_eq, q]
    by_cases hs : a[i] = b[i]
    · simp only [hs, true_and]
      simp [h0, h1, h12, h13, hlt, hlt', hs, hw]
      rw [← L51_0]
      refine (ihr (i + 1) _ _ (by omega) (by omega) ?_ ?_ ?_ ?_) <;> simp [h0, h1, h12]
    · simp [h0, h1, h12, h13, hlt, hlt', hs, hw]

theorem c51 (a b : List Int) (fl fl' : Fl) (hb : a.length ≤ 9223372036854775807) (st : St) :
    callD T (ev T) 51 [slE 1 fl (encI a), slE 1 fl' (encI b)] st = some (.bool (decide (a = b)), st) := by
  refine callD_pure (fn := F51) rfl rfl (by simp) (r := .bool (decide (a = b))) (st1 := []) (st2 := []) ?_ (by simp) (by simp)
  rw [ev_eq 51 F51 rfl, F51]
  by_cases hl : a.length = b.length
  · simp [hl]
    refine (l51 a b fl fl' hl hb _ 0 _ _ rfl (by omega) ?_ ?_ ?_ ?_).use (fun r => kfin _ (kseq _ (kblock 0 r)) = _) ?_
    iterate 4 simp [hl]
    rintro e s' b' st ⟨rfl, rfl, h⟩
    simp only [List.drop_zero] at h ⊢
    by_cases hs : a = b
    · simp [hs]
    · simp [hs, h hs]
  · have : a ≠ b := fun e => hl (by rw [e])
    simp [hl, this]

theorem l53 (a b : List Int) (fl fl' : Fl) (hl : a.length = b.length) (hb : a.length ≤ 9223372036854775807) :
    ∀ (r i : Nat) (s : List D) (bx : List (Nat × List D)), r = a.length - i → i ≤ a.length → get s 0 = slE 1 fl (encI a) → get s 1 = slE 1 fl' (encI b) → get s 5 = .int .i64 i →
    Stops (lp T L53_0 ⟨⟨s, bx⟩, []⟩) fun e s' _ st' => st' = [] ∧ e = (if a.drop i = b.drop i then .exit 0 else .ret) ∧ (a.drop i ≠ b.drop i → get s' 4 = .bool false) := by
  intro r
  induction r with
  | zero =>
    intro i s bx hr hi h0 h1 h5
    have e : i = a.length := by omega
    subst e
    rw [lp_kL, L53_0]
    have q : a.drop a.length = b.drop a.length := by rw [List.drop_length, hl, List.drop_length]
    rw [if_pos q]
    simp [h0, h1, h5, q]
  | succ r ihr =>
    intro i s bx hr hi h0 h1 h5
    rw [lp_kL, L53_0]
    have hlt : i < a.length := by omega
    have hlt' : i < b.length := by omega
    have hw : IntKind.wrap .i64 ((i : Int) + 1) = i + 1 := by rw [wrap64] <;> omega
    have q : (a.drop i = b.drop i) = (a[i] = b[i] ∧ a.drop (i + 1) = b.drop (i + 1)) := by
      rw [List.drop_eq_getElem_cons hlt, List.drop_eq_getElem_cons hlt', List.cons.injEq]
    simp only [ne_eq, q]
    by_cases hs : a[i] = b[i]
    · simp only [hs, true_and]
      simp [h0, h1, h5, hlt, hlt', hs, hw]
      rw [← L53_0]
      refine (ihr (i + 1) _ _ (by omega) (by omega) ?_ ?_ ?_) <;> simp [h0, h1]
    · simp [h0, h1, h5, hlt, hlt', hs, hw]

theorem c53 (a b : List Int) (fl fl' : Fl) (hb : a.length ≤ 9223372036854775807) (st : St) :
    callD T (ev T) 53 [slE 1 fl (encI a), slE 1 fl' (encI b)] st = some (.bool (decide (a = b)), st) := by
  refine callD_pure (fn := F53) rfl rfl (by simp) (r := .bool (decide (a = b))) (st1 := []) (st2 := []) ?_ (by simp) (by simp)
  rw [ev_eq 53 F53 rfl, F53]
  by_cases hl : a.length = b.length
  · simp [hl]
    refine (l53 a b fl fl' hl hb _ 0 _ _ rfl (by omega) ?_ ?_ ?_).use (fun r => kfin _ (kseq _ (kblock 0 r)) = _) ?_
    iterate 3 simp [hl]
    rintro e s' b' st ⟨rfl, rfl, h⟩
    simp only [List.drop_zero] at h ⊢
    by_cases hs : a = b
    · simp [hs]
    · simp [hs, h hs]
  · have : a ≠ b := fun e => hl (by rw [e])
    simp [hl, this]

/-- An outcome. -/
structure Oc where
  k : Int
  n : Int
  fl : Fl
  t : List Int
  u : Int

def Oc.enc (o : Oc) : D := .agg [.int .i64 o.k, .int .i64 o.n, slE 1 o.fl (encI o.t), .int .i64 o.u]
@[simp] theorem Oc.enc_cells (o : Oc) : o.enc.cells = [.int .i64 o.k, .int .i64 o.n, slE 1 o.fl (encI o.t), .int .i64 o.u] := (rfl)
@[simp] theorem Oc.enc_pure (o : Oc) : o.enc.pure = true := by simp [Oc.enc]
@[simp] theorem Oc.enc_okv (o : Oc) : o.enc.okv = true := by simp [Oc.enc]
@[simp] theorem Oc.enc_fz1 (o : Oc) (st : St) : fz1 st o.enc = some (o.enc, st) := by simp [Oc.enc, fz1, fzL]

def Agree (a b : Oc) : Bool :=
  decide (a.t.take (min a.t.length b.t.length) = b.t.take (min a.t.length b.t.length)) && (decide (a.k = 3) || decide (b.k = 3) || (decide (a.t.length = b.t.length) && decide (a.k = b.k) && decide (a.n = b.n)))

def ahead (a b : List Int) : Bool := decide (a.length ≤ b.length) && decide (a = b.take a.length)

theorem c52 (a b : List Int) (fl fl' : Fl) (hb : a.length ≤ 9223372036854775807) (st : St) :
    callD T (ev T) 52 [slE 1 fl (encI a), slE 1 fl' (encI b)] st = some (.bool (ahead a b), st) := by
  refine callD_pure (fn := F52) rfl rfl (by simp) (r := .bool (ahead a b)) (st1 := []) (st2 := []) ?_ (by simp) (by simp)
  rw [ev_eq 52 F52 rfl, F52]
  by_cases hl : a.length ≤ b.length
  · have q := slE_to 1 fl' (encI b) .i64 a.length (by simpa using hl)
    have q2 := c53 a (b.take a.length) fl (fl'.upto (encI b) a.length) hb []
    simp only [encI, List.map_take] at q q2
    simp [hl, q, q2, ahead]
  · simp [hl, ahead]

theorem c24 (a b : Oc) (ha : a.t.length ≤ 9223372036854775807) (st : St) :
    callD T (ev T) 24 [a.enc, b.enc] st = some (.bool (Agree a b), st) := by
  refine callD_pure (fn := F24) rfl rfl (by simp) (r := .bool (Agree a b)) (st1 := []) (st2 := []) ?_ (by simp) (by simp)
  rw [ev_eq 24 F24 rfl, F24]
  have hm : (if b.t.length < a.t.length then (b.t.length : Int) else a.t.length) = ((min a.t.length b.t.length : Nat) : Int) := by split <;> omega
  have hA : Agree a b = (decide (a.t.take (min a.t.length b.t.length) = b.t.take (min a.t.length b.t.length)) && (decide (a.k = 3) || decide (b.k = 3) || (decide (a.t.length = b.t.length) && decide (a.k = b.k) && decide (a.n = b.n)))) := rfl
  have m1 : min a.t.length b.t.length ≤ a.t.length := Nat.min_le_left _ _
  have m2 : min a.t.length b.t.length ≤ b.t.length := Nat.min_le_right _ _
  rw [hA]
  clear hA
  generalize min a.t.length b.t.length = m at hm m1 m2 ⊢
  have q1 := slE_to 1 a.fl (encI a.t) .i64 m (by simp; omega)
  have q2 := slE_to 1 b.fl (encI b.t) .i64 m (by simp; omega)
  have q3 := c51 (a.t.take m) (b.t.take m) (a.fl.upto (encI a.t) m) (b.fl.upto (encI b.t) m) (by simp; omega) []
  simp only [encI, List.map_take] at q1 q2 q3
  by_cases hs : a.t.take m = b.t.take m
  · by_cases k1 : a.k = 3
    · simp [Oc.enc, hm, q1, q2, q3, hs, k1]
    · by_cases k2 : b.k = 3
      · simp [Oc.enc, hm, q1, q2, q3, hs, k1, k2]
      · by_cases hl : a.t.length = b.t.length
        · have hl' := eq_true hl
          by_cases hk : a.k = b.k
          · have hk' := eq_true hk
            simp [Oc.enc, hm, q1, q2, q3, hs, k1, k2, hl', hk']
          · simp [Oc.enc, hm, q1, q2, q3, hs, k1, k2, hl', hk]
        · simp [Oc.enc, hm, q1, q2, q3, hs, k1, k2, hl]
  · simp [Oc.enc, hm, q1, q2, q3, hs]

def refAgree (a b : Oc) : Bool := (ahead a.t b.t || ahead b.t a.t) && (decide (a.k = 3) || decide (b.k = 3) || (decide (a.t = b.t) && decide (a.k = b.k) && decide (a.n = b.n)))

theorem c25 (a b : Oc) (ha : a.t.length ≤ 9223372036854775807) (hb : b.t.length ≤ 9223372036854775807) (st : St) :
    callD T (ev T) 25 [a.enc, b.enc] st = some (.bool (refAgree a b), st) := by
  refine callD_pure (fn := F25) rfl rfl (by simp) (r := .bool (refAgree a b)) (st1 := []) (st2 := []) ?_ (by simp) (by simp)
  rw [ev_eq 25 F25 rfl, F25]
  have q1 := c52 a.t b.t a.fl b.fl ha []
  have q2 := c52 b.t a.t b.fl a.fl hb []
  have q3 := c53 a.t b.t a.fl b.fl ha []
  unfold refAgree
  by_cases k1 : a.k = 3
  · cases h1 : ahead a.t b.t <;> cases h2 : ahead b.t a.t <;> simp [Oc.enc, q1, q2, q3, h1, h2, k1]
  · by_cases k2 : b.k = 3
    · cases h1 : ahead a.t b.t <;> cases h2 : ahead b.t a.t <;> simp [Oc.enc, q1, q2, q3, h1, h2, k1, k2]
    · by_cases hs : a.t = b.t
      · have hs' := eq_true hs
        by_cases hk : a.k = b.k
        · have hk' := eq_true hk
          cases h1 : ahead a.t b.t <;> cases h2 : ahead b.t a.t <;> simp [Oc.enc, q1, q2, q3, h1, h2, k1, k2, hs', hk']
        · cases h1 : ahead a.t b.t <;> cases h2 : ahead b.t a.t <;> simp [Oc.enc, q1, q2, q3, h1, h2, k1, k2, hs', hk]
      · cases h1 : ahead a.t b.t <;> cases h2 : ahead b.t a.t <;> simp [Oc.enc, q1, q2, q3, h1, h2, k1, k2, hs]

theorem agree_ref (a b : Oc) : refAgree a b = Agree a b := by
  have e : (ahead a.t b.t || ahead b.t a.t) = decide (a.t.take (min a.t.length b.t.length) = b.t.take (min a.t.length b.t.length)) := by
    unfold ahead
    rcases Nat.le_total a.t.length b.t.length with h | h
    · rw [Nat.min_eq_left h, List.take_of_length_le (Nat.le_refl _)]
      by_cases q : a.t = b.t.take a.t.length
      · simp [h, ← q]
      · have : ¬ (b.t.length ≤ a.t.length ∧ b.t = a.t.take b.t.length) := by
          rintro ⟨h1, h2⟩
          have hl : a.t.length = b.t.length := by omega
          rw [← hl, List.take_of_length_le (Nat.le_refl _)] at h2
          exact q (by rw [h2, List.take_of_length_le (Nat.le_refl _)])
        have t2 : (decide (b.t.length ≤ a.t.length) && decide (b.t = a.t.take b.t.length)) = false := by rw [← Bool.decide_and, decide_eq_false this]
        rw [t2]
        simp [h]
    · rw [Nat.min_eq_right h, List.take_of_length_le (Nat.le_refl b.t.length)]
      by_cases q : b.t = a.t.take b.t.length
      · simp [h, ← q]
      · have : ¬ (a.t.length ≤ b.t.length ∧ a.t = b.t.take a.t.length) := by
          rintro ⟨h1, h2⟩
          have hl : a.t.length = b.t.length := by omega
          rw [hl, List.take_of_length_le (Nat.le_refl _)] at h2
          exact q (by rw [h2, List.take_of_length_le (Nat.le_refl _)])
        have q' : ¬ a.t.take b.t.length = b.t := fun e => q e.symm
        have t2 : (decide (a.t.length ≤ b.t.length) && decide (a.t = b.t.take a.t.length)) = false := by rw [← Bool.decide_and, decide_eq_false this]
        rw [t2]
        simp [h, q, q']
  unfold refAgree Agree
  rw [e]
  by_cases hs : a.t = b.t
  · simp [hs]
  · by_cases hl : a.t.length = b.t.length
    · have : ¬ a.t.take (min a.t.length b.t.length) = b.t.take (min a.t.length b.t.length) := by
        rw [hl, Nat.min_self, List.take_of_length_le (Nat.le_refl b.t.length), ← hl, List.take_of_length_le (Nat.le_refl _)]
        exact hs
      simp [this]
    · simp [hs, hl]

theorem agree_comm (a b : Oc) : Agree a b = Agree b a := by
  unfold Agree
  rw [Nat.min_comm b.t.length]
  rw [decide_eq_decide.2 (eq_comm (a := a.t.take _))]
  congr 1
  rw [Bool.or_comm (decide (a.k = 3)), decide_eq_decide.2 (eq_comm (a := a.t.length)), decide_eq_decide.2 (eq_comm (a := a.k) (b := b.k)), decide_eq_decide.2 (eq_comm (a := a.n))]

theorem agree_self (a : Oc) : Agree a a = true := by simp [Agree]

theorem agree_dry (a : Oc) (n : Nat) (h : n ≤ a.t.length) (fl : Fl) : Agree a ⟨3, 0, fl, a.t.take n, 0⟩ = true := by
  simp [Agree, Nat.min_eq_right h, List.take_take]

theorem e21 : (evT T 100 21 [] []) = some (.bool true, []) := by kernel_rfl

theorem c21 (st : St) : callD T (ev T) 21 [] st = some (.bool true, st) :=
  callD_pure (fn := F21) rfl rfl (by simp) (r := .bool true) (st1 := []) (st2 := []) (lim_le (ev_mono 21 [] []) 100 _ e21) (by simp) (by simp)

/-- The law LinkAgrees. -/
theorem ev7 (a b : Oc) (n : Int) (ha : a.t.length ≤ 9223372036854775807) (hb : b.t.length ≤ 9223372036854775807) : ev T 7 [a.enc, b.enc, .int .i64 n] [] = some (.bool true, []) := by
  rw [ev_eq 7 F7 rfl, F7]
  have q1 := fun st => c24 a b ha st
  have q2 := fun st => c25 a b ha hb st
  have q3 := fun st => c24 b a hb st
  have q4 := fun st => c24 a a ha st
  rw [agree_self] at q4
  simp only [agree_ref] at q2
  simp only [agree_comm b a] at q3
  have hA : a.enc = .agg [.int .i64 a.k, .int .i64 a.n, slE 1 a.fl (encI a.t), .int .i64 a.u] := rfl
  have hB : b.enc = .agg [.int .i64 b.k, .int .i64 b.n, slE 1 b.fl (encI b.t), .int .i64 b.u] := rfl
  rw [hA, hB] at q1 q2 q3 
  rw [hA] at q4
  rw [hA, hB]
  have c200 : ∀ m : Nat, ((200 : Int) < m) = (200 < m) := fun m => propext (by omega)
  by_cases h1 : 200 < a.t.length
  · simp [c200, h1, c21]
  · by_cases h2 : 200 < b.t.length
    · simp [c200, h1, h2, c21]
    · by_cases h3 : n < 0
      · cases hq : Agree a b <;> simp [c200, h1, h2, h3, c21, q1, q2, q3, q4, hq]
      · obtain ⟨m, rfl⟩ : ∃ m : Nat, n = m := ⟨n.toNat, by omega⟩
        by_cases h4 : a.t.length < m
        · cases hq : Agree a b <;> simp [c200, h1, h2, h4, c21, q1, q2, q3, q4, hq]
        · have q5 := fun st => c24 a ⟨3, 0, a.fl.upto (encI a.t) m, a.t.take m, 0⟩ ha st
          rw [agree_dry a m (by omega)] at q5
          have q6 := slE_to 1 a.fl (encI a.t) .i64 m (by simp; omega)
          simp only [encI, List.map_take] at q1 q2 q3 q4 q5 q6 ⊢
          rw [hA] at q5
          simp only [Oc.enc, encI, List.map_take] at q5
          cases hq : Agree a b <;> simp [c200, h1, h2, h4, c21, q1, q2, q3, q4, q5, q6, hq]

end Go.Nt.Lk
