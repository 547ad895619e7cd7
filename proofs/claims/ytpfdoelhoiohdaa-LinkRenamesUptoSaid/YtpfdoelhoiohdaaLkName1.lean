/-
  NAMING ANEW, WALKED (1): the names.
  No condition.
-/
import Derived.Test.YtpfdoelhoiohdaaLkBuf
import Derived.Test.YtpfdoelhoiohdaaLkName0
set_option linter.unusedSimpArgs false
namespace Go.Nt.Lk
open Go Go.Nt

def encN (n : Nm) : D := .agg [.str n.1, .str n.2]
@[simp] theorem encN_pure (n : Nm) : (encN n).pure = true := by simp [encN]
@[simp] theorem encN_okv (n : Nm) : (encN n).okv = true := by simp [encN]
@[simp] theorem encN_cells (n : Nm) : (encN n).cells = [.str n.1, .str n.2] := (rfl)
@[simp] theorem encN_fits (n : Nm) : (encN n).fits (some 2) = true := by simp [encN]

theorem newOf_go {ns : List Nm} {w : List UInt8} {i : Nat} (h : i < ns.length) : newOf (ns.drop i) w = if ns[i].1 = w then some ns[i].2 else newOf (ns.drop (i + 1)) w := by
  unfold newOf
  rw [List.drop_eq_getElem_cons h, List.find?_cons]
  by_cases hq : ns[i].1 = w <;> simp [hq]

theorem l50 (ns : List Nm) (fl : Fl) (hl : ns.length ≤ 40) (w : List UInt8) :
    ∀ (r i : Nat) (sl : List D) (bx : List (Nat × List D)), r = ns.length - i → i ≤ ns.length → get sl 0 = slE 2 fl (ns.map encN) → get sl 1 = .str w → get sl 5 = .int .i64 i →
    Stops (lp T L50_0 ⟨⟨sl, bx⟩, []⟩) fun e s' _ st' => st' = [] ∧ get s' 1 = .str w ∧ e = (if (newOf (ns.drop i) w).isSome then .ret else .exit 0) ∧ ∀ v, newOf (ns.drop i) w = some v → get s' 4 = .str v := by
  intro r
  induction r with
  | zero =>
    intro i sl bx hr hi h0 h1 h5
    have e : i = ns.length := by omega
    subst e
    rw [lp_kL, L50_0, List.drop_length]
    simp [h0, h1, h5, newOf]
  | succ r ih =>
    intro i sl bx hr hi h0 h1 h5
    have hlt : i < ns.length := by omega
    rw [lp_kL, L50_0]
    have w1 : IntKind.wrap .i64 ((i : Int) + 1) = ((i + 1 : Nat) : Int) := wrap_add (n := 1) (by omega) (by omega)
    have hgo := newOf_go (w := w) hlt
    by_cases hq : ns[i].1 = w
    · rw [if_pos hq] at hgo
      simp only [hgo]
      simp [h0, h1, h5, hlt, hq]
    · rw [if_neg hq] at hgo
      simp only [hgo]
      simp [h0, h1, h5, hlt, hq, w1, -Int.natCast_add]
      rw [← L50_0]
      refine ih (i + 1) _ _ (by omega) (by omega) ?_ ?_ ?_ <;> simp [h0, h1]

theorem c50 (ns : List Nm) (fl : Fl) (hl : ns.length ≤ 40) (w : List UInt8) (st : St) : callD T (ev T) 50 [slE 2 fl (ns.map encN), .str w] st = some (.str ((newOf ns w).getD w), st) := by
  refine callD_pure (fn := F50) rfl rfl (by simp) (r := .str ((newOf ns w).getD w)) (st1 := []) (st2 := []) ?_ (by simp) (by simp)
  rw [ev_eq 50 F50 rfl, F50]
  simp
  refine (l50 ns fl hl w _ 0 _ _ rfl (by omega) ?_ ?_ ?_).use (fun r => kfin _ (kseq _ (kblock 0 r)) = _) ?_
  · simp
  · simp
  · simp
  · rintro e s' b' st' ⟨rfl, h1, rfl, h⟩
    rw [List.drop_zero] at h ⊢
    cases hn : newOf ns w with
    | none => simp [h1]
    | some v => simp [h v hn]

theorem c46 (st : St) (l : List Tok) (x y v1 v2 m1 m2 : Nat) (f1 f2 : Bool) (i : Nat) (hi : i < l.length) (n : Nm) (h1 : St.at st x = .cells true 1 v1 m1 f1 [slE 5 .part (l.map Tok.enc)]) (h2 : St.at st y = .cells true 1 v2 m2 f2 [.int .i64 i]) :
    callD T (ev T) 46 [encN n, .hp x v1 1 0 0, .hp y v2 1 0 0] st = some (.bool (decide (n.1 = l[i].s)), st) := by
  refine callD_pop (fn := F46) rfl rfl (by simp) (r := .bool (decide (n.1 = l[i].s))) (st1 := st) (st2 := st) ?_ (by simp) (by simp) (by simp)
  rw [ev_eq 46 F46 rfl, F46]
  simp [h1, h2, hi, encN, Tok.enc]

def Q45 (st : St) (ns : List Nm) (o : Option (List UInt8)) (e : Ex) (s' : List D) (st' : St) : Prop :=
  st' = st ∧ e = (if o.isSome then .ret else .exit 0) ∧ ∀ v, o = some v → ∃ (j : Nat) (n : Nm), get s' 4 = .int .i64 j ∧ ns[j]? = some n ∧ n.2 = v

theorem l45 (st : St) (l : List Tok) (x y v1 v2 m1 m2 : Nat) (f1 f2 : Bool) (k : Nat) (hk : k < l.length) (h1 : St.at st x = .cells true 1 v1 m1 f1 [slE 5 .part (l.map Tok.enc)]) (h2 : St.at st y = .cells true 1 v2 m2 f2 [.int .i64 k])
    (ns : List Nm) (fl : Fl) (hl : ns.length ≤ 40) :
    ∀ (r i : Nat) (sl : List D) (bx : List (Nat × List D)), r = ns.length - i → i ≤ ns.length → get sl 0 = slE 2 fl (ns.map encN) → get sl 1 = .fn 46 [] [.hp x v1 1 0 0, .hp y v2 1 0 0] → get sl 7 = .i ns.length → get sl 8 = .int .i64 i →
    Stops (lp T L45_0 ⟨⟨sl, bx⟩, st⟩) fun e s' _ st' => Q45 st ns (newOf (ns.drop i) l[k].s) e s' st' := by
  intro r
  induction r with
  | zero =>
    intro i sl bx hr hi g0 g1 g7 g8
    have e : i = ns.length := by omega
    subst e
    rw [lp_kL, L45_0, List.drop_length]
    simp [g0, g1, g7, g8]
    exact ⟨rfl, rfl, fun v h => by simp [newOf] at h⟩
  | succ r ih =>
    intro i sl bx hr hi g0 g1 g7 g8
    have hlt : i < ns.length := by omega
    rw [lp_kL, L45_0]
    have w1 : IntKind.wrap .i64 ((i : Int) + 1) = ((i + 1 : Nat) : Int) := wrap_add (n := 1) (by omega) (by omega)
    have hgo := newOf_go (w := l[k].s) hlt
    have q := c46 st l x y v1 v2 m1 m2 f1 f2 k hk ns[i] h1 h2
    by_cases hq : ns[i].1 = l[k].s
    · rw [if_pos hq] at hgo
      rw [decide_eq_true hq] at q
      simp only [hgo]
      simp [g0, g1, g7, g8, hlt, q]
      refine ⟨rfl, rfl, fun v h => ⟨i, ns[i], by simp, by simp [hlt], by simpa using h⟩⟩
    · rw [if_neg hq] at hgo
      rw [decide_eq_false hq] at q
      simp only [hgo]
      simp [g0, g1, g7, g8, hlt, q, w1, -Int.natCast_add]
      rw [← L45_0]
      refine (ih (i + 1) _ _ (by omega) (by omega) ?_ ?_ ?_ ?_) <;> simp [g0, g1, g7]

def P45 (ns : List Nm) (o : Option (List UInt8)) (j : Int) : Prop :=
  match o with
  | none => j = -1
  | some v => ∃ (i : Nat) (n : Nm), j = i ∧ ns[i]? = some n ∧ n.2 = v

/-- IndexFunc: where the old name is, or -1. -/
theorem c45 (st : St) (l : List Tok) (x y v1 v2 m1 m2 : Nat) (f1 f2 : Bool) (k : Nat) (hk : k < l.length) (h1 : St.at st x = .cells true 1 v1 m1 f1 [slE 5 .part (l.map Tok.enc)]) (h2 : St.at st y = .cells true 1 v2 m2 f2 [.int .i64 k])
    (ns : List Nm) (fl : Fl) (hl : ns.length ≤ 40) : ∃ j : Int, callD T (ev T) 45 [slE 2 fl (ns.map encN), .fn 46 [] [.hp x v1 1 0 0, .hp y v2 1 0 0]] st = some (.int .i64 j, st) ∧
      P45 ns (newOf ns l[k].s) j := by
  suffices h : Ret (ev T 45 [slE 2 fl (ns.map encN), .fn 46 [] [.hp x v1 1 0 0, .hp y v2 1 0 0]] st) fun r st' => st' = st ∧ ∃ j : Int, r = .int .i64 j ∧
      P45 ns (newOf ns l[k].s) j by
    obtain ⟨r, st', e, rfl, j, rfl, hj⟩ := h
    exact ⟨j, callD_pop (fn := F45) rfl rfl (by simp) (q := .int .i64 j) (st2 := st') e (by simp) (by simp) (by simp), hj⟩
  rw [ev_eq 45 F45 rfl, F45]
  simp
  refine (l45 st l x y v1 v2 m1 m2 f1 f2 k hk h1 h2 ns fl hl _ 0 _ _ rfl (by omega) ?_ ?_ ?_ ?_).use (fun r => Ret (kfin _ (kseq _ (kblock 0 r))) _) ?_
  · simp
  · simp
  · simp
  · simp
  · rintro e s' b' st' ⟨rfl, rfl, h⟩
    rw [List.drop_zero] at h ⊢
    cases hn : newOf ns l[k].s with
    | none =>
      have hp : P45 ns none (-1) := rfl
      simp
      exact hp
    | some v =>
      obtain ⟨j, n, g1, g2, g3⟩ := h v hn
      have hp : P45 ns (some v) j := ⟨j, n, rfl, g2, g3⟩
      simp [g1]
      exact hp

end Go.Nt.Lk
