/-
  THE CELLS OF TYPES, both ways: the walk of package typ's meter, and of layer 12's reference.
-/
import Derived.Test.YtmmfhcodhaemiaaTyCount
set_option linter.unusedSimpArgs false
namespace Go.Nt.Ty
open Go Go.Nt

/-- An array's cells. -/
def prod (n c : Int) : Int := if n < 1 ∨ 16 < n ∨ 64 < n * c then 0 else n * c

/-- A type's cells, given a record's. -/
def arrM (rec : Int → Int) : Tm → Int
  | .mk k n _ _ l _ _ => if (k = 1 ∨ k = 2) ∧ l = [] then 1 else if k = 3 then (match l with | [x] => prod n (arrM rec x) | _ => 0) else if k = 4 ∧ l = [] then rec n else 0

/-- A record's parts' cells. -/
def sumM (f : Tm → Int) : List Tm → Int → Int
  | [], acc => acc
  | p :: ps, acc => match p.l with
    | [x] => if p.k = 34 then (if f x = 0 ∨ 64 < acc + f x then 0 else sumM f ps (acc + f x)) else 0
    | _ => 0

def recM (m : Tm) : Nat → Int → Int
  | 0, _ => 0
  | r + 1, n => if h : 0 ≤ n ∧ n < m.l.length then (if (m.l[n.toNat]'(by omega)).k = 30 then sumM (arrM (recM m r)) (m.l[n.toNat]'(by omega)).l 0 else 0) else 0

theorem arrM_eq (rec : Int → Int) (t : Tm) : arrM rec t = if (t.k = 1 ∨ t.k = 2) ∧ t.l = [] then 1 else if t.k = 3 then (match t.l with | [x] => prod t.n (arrM rec x) | _ => 0) else if t.k = 4 ∧ t.l = [] then rec t.n else 0 := by
  cases t with
  | mk k n s fl l a b =>
    match l with
    | [] => simp [arrM, Tm.k, Tm.n, Tm.l]
    | [x] => simp [arrM, Tm.k, Tm.n, Tm.l]
    | x :: y :: l => simp [arrM, Tm.k, Tm.n, Tm.l]

theorem prod_in (n c : Int) (hc : 0 ≤ c) : 0 ≤ prod n c ∧ prod n c ≤ 64 := by
  unfold prod
  split
  · omega
  · next h =>
    have : 0 ≤ n * c := Int.mul_nonneg (by omega) hc
    omega

theorem arrM_in (rec : Int → Int) (h : ∀ n, 0 ≤ rec n ∧ rec n ≤ 64) (t : Tm) : 0 ≤ arrM rec t ∧ arrM rec t ≤ 64 := by
  induction t using Tm.ind with
  | h t ih =>
    rw [arrM_eq]
    split
    · omega
    · split
      · split
        · next x hx => exact prod_in _ _ (ih x (by rw [hx]; simp)).1
        · omega
      · split
        · exact h _
        · omega

theorem sumM_in (f : Tm → Int) (h : ∀ t, 0 ≤ f t ∧ f t ≤ 64) (l : List Tm) (acc : Int) (ha : 0 ≤ acc ∧ acc ≤ 64) : 0 ≤ sumM f l acc ∧ sumM f l acc ≤ 64 := by
  induction l generalizing acc with
  | nil => exact ha
  | cons p l ih =>
    rw [sumM]
    split
    · next x hx =>
      have := h x
      split
      · split
        · omega
        · exact ih _ (by omega)
      · omega
    · omega

theorem recM_in (m : Tm) (r : Nat) (n : Int) : 0 ≤ recM m r n ∧ recM m r n ≤ 64 := by
  induction r generalizing n with
  | zero => simp [recM]
  | succ r ih =>
    rw [recM]
    split
    · split
      · exact sumM_in _ (arrM_in _ ih) _ _ (by omega)
      · omega
    · omega

theorem c32 (n c : Int) (hc : 0 ≤ c ∧ c ≤ 64) (st : St) : callD T (ev T) 32 [.int .i64 n, .int .i64 c] st = some (.int .i64 (prod n c), st) := by
  refine callD_pure (fn := F32) rfl rfl (by simp) (r := .int .i64 (prod n c)) (st1 := []) (st2 := []) ?_ (by simp) (by simp)
  rw [ev_eq 32 F32 rfl, F32]
  unfold prod
  by_cases h1 : n < 1
  · simp [h1]
  · by_cases h2 : 16 < n
    · simp [h1, h2]
    · have hb : n * c ≤ 16 * 64 := Int.mul_le_mul (by omega) hc.2 hc.1 (by omega)
      have hb0 : 0 ≤ n * c := Int.mul_nonneg (by omega) hc.1
      have hw : IntKind.wrap .i64 (n * c) = n * c := by rw [wrap64] <;> omega
      by_cases h3 : 64 < n * c
      · simp [h1, h2, h3, hw]
      · simp [h1, h2, h3, hw]

/-- The meter's cells. -/
abbrev clM (m : Tm) (d : Int) : List D := [.int .i64 m.k, .int .i64 m.n, .str m.s, slE 6 m.fl (encTs m.l), .int .i64 m.a, .int .i64 m.b, .int .i64 d]

theorem clM_pure (m : Tm) (d : Int) (st : St) (args : List D) (h : pureArgs st args = some (args, st)) : pureArgs st (.agg (clM m d) :: args) = some (.agg (clM m d) :: args, st) := by simp [h]

theorem c31 (m : Tm) (d : Int) (r : Nat) (hrec : ∀ n st, in64 n → callD T (ev T) 33 [.agg (clM m d), .int .i64 n] st = some (.int .i64 (recM m r n), st)) (t : Tm) :
    t.ok → ∀ st, callD T (ev T) 31 [.agg (clM m d), encT t] st = some (.int .i64 (arrM (recM m r) t), st) := by
  induction t using Tm.ind with
  | h t ih =>
    intro ht st
    obtain ⟨k1, k2, k4, k5, k6, k7, k3⟩ := (Tm.ok_iff t).1 ht
    refine callD_pure (fn := F31) rfl rfl (by simp) (r := .int .i64 (arrM (recM m r) t)) (st1 := []) (st2 := []) ?_ (by simp) (by simp)
    rw [ev_eq 31 F31 rfl, F31, arrM_eq]
    have hr := hrec t.n [] k2
    cases hl : t.l with
    | nil =>
      by_cases h1 : t.k = 1
      · simp [h1, hl]
      · by_cases h2 : t.k = 2
        · simp [h1, h2, hl]
        · by_cases h3 : t.k = 3
          · simp [h1, h2, h3, hl]
          · by_cases h4 : t.k = 4
            · simp [h1, h2, h3, h4, hl, hr]
            · simp [h1, h2, h3, h4, hl]
    | cons x l =>
      by_cases h3 : t.k = 3
      · cases l with
        | nil =>
          have hx := ih x (by rw [hl]; simp) (k3 x (by rw [hl]; simp)) []
          have hp := c32 t.n (arrM (recM m r) x) (arrM_in _ (recM_in m r) x) []
          simp [h3, hl, ← encT_eq, hx, hp]
        | cons y l =>
          have e : ¬ ((l.length : Int) + 1 + 1 = 1) := by omega
          simp [h3, hl, e]
      · by_cases h1 : t.k = 1
        · simp [h1, hl]
        · by_cases h2 : t.k = 2
          · simp [h1, h2, hl]
          · by_cases h4 : t.k = 4
            · simp [h1, h2, h3, h4, hl]
            · simp [h1, h2, h3, h4, hl]


theorem l33 (m dd : Tm) (d : Int) (f : Tm → Int) (hf : ∀ t, 0 ≤ f t ∧ f t ≤ 64) (hdd : dd.ok) (hc : ∀ t st, t.ok → callD T (ev T) 31 [.agg (clM m d), encT t] st = some (.int .i64 (f t), st)) :
    ∀ (r i : Nat) (acc : Int) (s : List D) (bx : List (Nat × List D)), r = dd.l.length - i → i ≤ dd.l.length → 0 ≤ acc ∧ acc ≤ 64 → get s 2 = .lp 2 1 0 → getB bx 2 = (1, clM m d) → get s 5 = .lp 5 1 0 → getB bx 5 = (1, clT dd) → get s 44 = .i dd.l.length → get s 45 = .int .i64 i → get s 6 = .int .i64 acc →
    Stops (lp T L33_0 ⟨⟨s, bx⟩, []⟩) fun e s' _ st' => st' = [] ∧ (e = .exit 0 ∧ get s' 6 = .int .i64 (sumM f (dd.l.drop i) acc) ∨ e = .ret ∧ get s' 4 = .int .i64 0 ∧ sumM f (dd.l.drop i) acc = 0) := by
  obtain ⟨k1, k2, k4, k5, k6, k7, k3⟩ := (Tm.ok_iff dd).1 hdd
  intro r
  induction r with
  | zero =>
    intro i acc s bx hr hi ha h2 b2 h5 b5 h44 h45 h6
    have e : i = dd.l.length := by omega
    subst e
    rw [lp_kL, L33_0, List.drop_length]
    simp [h2, b2, h5, b5, h44, h45, h6, sumM]
  | succ r ihr =>
    intro i acc s bx hr hi ha h2 b2 h5 b5 h44 h45 h6
    have hlt : i < dd.l.length := by omega
    have hw : IntKind.wrap .i64 ((i : Int) + 1) = i + 1 := by rw [wrap64] <;> omega
    rw [lp_kL, L33_0, List.drop_eq_getElem_cons hlt, sumM]
    have hok := k3 _ (List.getElem_mem hlt)
    by_cases hk : dd.l[i].k = 34
    · match hl : dd.l[i].l with
      | [] => simp [h2, b2, h5, b5, h44, h45, h6, hlt, hk, hl]
      | [x] =>
        have hx := hc x [] (((Tm.ok_iff _).1 hok).2.2.2.2.2.2 x (by rw [hl]; simp))
        have hfx := hf x
        have hw2 : IntKind.wrap .i64 (acc + f x) = acc + f x := by rw [wrap64] <;> omega
        by_cases h0 : f x = 0
        · have hw3 : IntKind.wrap .i64 acc = acc := by rw [wrap64] <;> omega
          simp [h2, b2, h5, b5, h44, h45, h6, hlt, hk, hl, ← encT_eq, hx, h0, hw3]
        · by_cases h1 : 64 < acc + f x
          · simp [h2, b2, h5, b5, h44, h45, h6, hlt, hk, hl, ← encT_eq, hx, h0, h1, hw2]
          · simp [h2, b2, h5, b5, h44, h45, h6, hlt, hk, hl, ← encT_eq, hx, h0, h1, hw2, hw]
            rw [← L33_0]
            refine ihr (i + 1) (acc + f x) _ _ (by omega) (by omega) (by omega) ?_ ?_ ?_ ?_ ?_ ?_ ?_
            iterate 7 simp [h2, b2, h5, b5, h44]
      | x :: y :: l =>
        have e : ¬ ((l.length : Int) + 1 + 1 = 1) := by omega
        simp [h2, b2, h5, b5, h44, h45, h6, hlt, hk, hl, e]
    · simp [h2, b2, h5, b5, h44, h45, h6, hlt, hk]
      split <;> rfl

theorem c33 (m : Tm) (hm : m.ok) (hb : m.l.length ≤ 1000000) : ∀ (r : Nat) (d : Nat) (n : Int) (st : St), d + r = m.l.length + 1 → in64 n → callD T (ev T) 33 [.agg (clM m d), .int .i64 n] st = some (.int .i64 (recM m r n), st) := by
  obtain ⟨k1, k2, k4, k5, k6, k7, k3⟩ := (Tm.ok_iff m).1 hm
  intro r
  induction r with
  | zero =>
    intro d n st hd hn
    refine callD_pure (fn := F33) rfl rfl (by simp) (r := .int .i64 0) (st1 := []) (st2 := []) ?_ (by simp [recM]) (by simp)
    rw [ev_eq 33 F33 rfl, F33]
    by_cases h1 : n < 0
    · simp [h1]
    · by_cases h2 : (m.l.length : Int) ≤ n
      · simp [h1, h2]
      · have h3 : m.l.length < d := by omega
        simp [h1, h2, h3]
  | succ r ih =>
    intro d n st hd hn
    have hc : ∀ t st, t.ok → callD T (ev T) 31 [.agg (clM m (d + 1 : Nat)), encT t] st = some (.int .i64 (arrM (recM m r) t), st) :=
      fun t st ht => c31 m _ r (fun n st hn => ih (d + 1) n st (by omega) hn) t ht st
    refine callD_pure (fn := F33) rfl rfl (by simp) (r := .int .i64 (recM m (r + 1) n)) (st1 := []) (st2 := []) ?_ (by simp) (by simp)
    rw [ev_eq 33 F33 rfl, F33, recM]
    by_cases h1 : n < 0
    · have e : ¬ (0 ≤ n ∧ n < m.l.length) := by omega
      rw [dif_neg e]
      simp [h1]
    · by_cases h2 : (m.l.length : Int) ≤ n
      · have e : ¬ (0 ≤ n ∧ n < m.l.length) := by omega
        rw [dif_neg e]
        simp [h1, h2]
      · have e : 0 ≤ n ∧ n < m.l.length := by omega
        have h3 : ¬ m.l.length < d := by omega
        have h4 : n.toNat < m.l.length := by omega
        have hw : IntKind.wrap .i64 ((d : Int) + 1) = d + 1 := by rw [wrap64] <;> omega
        rw [dif_pos e]
        by_cases h5 : m.l[n.toNat].k = 30
        · rw [if_pos h5]
          simp [h1, h2, h3, h4, h5, hw]
          refine (l33 m m.l[n.toNat] (d + 1 : Nat) (arrM (recM m r)) (arrM_in _ (recM_in m r)) (k3 _ (List.getElem_mem h4)) hc _ 0 0 _ _ rfl (by omega) (by omega) ?_ ?_ ?_ ?_ ?_ ?_ ?_).use (fun r => kfin _ (kseq _ (kblock 0 r)) = _) ?_
          iterate 7 simp [h5]
          rintro e s' b' st ⟨rfl, ⟨rfl, g⟩ | ⟨rfl, g, g'⟩⟩
          · simp [g]
          · simp at g'
            simp [g, g']
        · rw [if_neg h5]
          simp [h1, h2, h3, h4, h5]

/-- A type's cells. -/
def cellsV (m t : Tm) : Int := arrM (recM m (m.l.length + 1)) t

theorem c29 (m t : Tm) (hm : m.ok) (hb : m.l.length ≤ 1000000) (ht : t.ok) (st : St) : callD T (ev T) 29 [encT m, encT t] st = some (.int .i64 (cellsV m t), st) := by
  refine callD_pure (fn := F29) rfl rfl (by simp) (r := .int .i64 (cellsV m t)) (st1 := []) (st2 := []) ?_ (by simp) (by simp)
  have h := c31 m (0 : Nat) (m.l.length + 1) (fun n st hn => c33 m hm hb _ 0 n st (by omega) hn) t ht []
  rw [ev_eq 29 F29 rfl, F29]
  simp at h
  simp [fillD, ← encT_eq, h, cellsV]

end Go.Nt.Ty
