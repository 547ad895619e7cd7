/-
  PARAMETERS' TYPES, fields: the walks.
-/
import Derived.Test.YtmmfhcodhaemiaaTySame
set_option linter.unusedSimpArgs false
namespace Go.Nt.Ty
open Go Go.Nt

theorem allT_len : ∀ (l k : List Tm), l.length ≠ k.length → allT l k = false
  | [], [], h => absurd rfl h
  | [], _ :: _, _ => by simp [allT]
  | _ :: _, [], _ => by simp [allT]
  | v :: l, u :: k, h => by simp only [allT]; rw [allT_len l k (by simpa using h), Bool.and_false]

theorem l25 (ts ps : List Tm) (fl fl' : Fl) (hl : ts.length = ps.length) (hb : ps.length ≤ 9223372036854775807) (ht : ∀ t, t ∈ ts → good t) (hp : ∀ p, p ∈ ps → good p) :
    ∀ (r i : Nat) (s : List D) (bx : List (Nat × List D)), r = ps.length - i → i ≤ ps.length → get s 12 = slE 6 fl' (encTs ps) → get s 0 = slE 6 fl (encTs ts) → get s 13 = .i ps.length → get s 14 = .int .i64 i →
    Stops (lp T L25_0 ⟨⟨s, bx⟩, []⟩) fun e s' _ st' => st' = [] ∧ e = (if allT (ts.drop i) (ps.drop i) then .exit 0 else .ret) ∧ (allT (ts.drop i) (ps.drop i) = false → get s' 4 = .bool false) := by
  intro r
  induction r with
  | zero =>
    intro i s bx hr hi h12 h0 h13 h14
    have e : i = ps.length := by omega
    subst e
    rw [lp_kL, L25_0]
    have q : allT (ts.drop ps.length) (ps.drop ps.length) = true := by rw [List.drop_length, ← hl, List.drop_length]; rfl
    rw [q]
    simp [h12, h0, h13, h14]
  | succ r ihr =>
    intro i s bx hr hi h12 h0 h13 h14
    rw [lp_kL, L25_0]
    have hlt : i < ps.length := by omega
    have hlt' : i < ts.length := by omega
    have hw : IntKind.wrap .i64 ((i : Int) + 1) = i + 1 := by rw [wrap64] <;> omega
    have gp := hp _ (List.getElem_mem hlt)
    have gt := ht _ (List.getElem_mem hlt')
    have q : allT (ts.drop i) (ps.drop i) = ((decide (ps[i].l.length = 1) && sameT ts[i] (bareT (ps[i].l.headD T0))) && allT (ts.drop (i + 1)) (ps.drop (i + 1))) := by
      rw [List.drop_eq_getElem_cons hlt, List.drop_eq_getElem_cons hlt', allT]
    match hx : ps[i].l with
    | [] => simp [h12, h0, h13, h14, hlt, hlt', hw, q, hx]
    | x :: y :: l => simp [h12, h0, h13, h14, hlt, hlt', hw, q, hx]
    | [x] =>
      have gx := good_mem gp (by rw [hx]; simp : x ∈ ps[i].l)
      have h26 := c26 x gx []
      have h28 := c28 ts[i] (good_ok _ gt) (bareT x) []
      cases hs : sameT ts[i] (bareT x) with
      | true =>
        rw [hs] at h28
        simp [h12, h0, h13, h14, hlt, hlt', hw, q, hx, ← encT_eq, h26, h28, hs]
        rw [← L25_0]
        refine ihr (i + 1) _ _ (by omega) (by omega) ?_ ?_ ?_ ?_ <;> simp [h12, h0, h13]
      | false =>
        rw [hs] at h28
        simp [h12, h0, h13, h14, hlt, hlt', hw, q, hx, ← encT_eq, h26, h28, hs]

theorem c25e (ts ps : List Tm) (fl fl' : Fl) (hb : ps.length ≤ 9223372036854775807) (ht : ∀ t, t ∈ ts → good t) (hp : ∀ p, p ∈ ps → good p) :
    ev T 25 [slE 6 fl (encTs ts), slE 6 fl' (encTs ps)] [] = some (.bool (allT ts ps), []) := by
  rw [ev_eq 25 F25 rfl, F25]
  by_cases hl : ts.length = ps.length
  · simp [hl]
    refine (l25 ts ps fl fl' hl hb ht hp _ 0 _ _ rfl (by omega) ?_ ?_ ?_ ?_).use (fun r => kfin _ (kseq _ (kblock 0 r)) = _) ?_
    iterate 4 simp [hl]
    rintro e s' b' st ⟨rfl, rfl, h⟩
    cases hs : allT ts ps <;> simp_all
  · simp [hl, allT_len _ _ hl]

theorem c27 (m : Tm) (n : Int) (hn : in64 n) (st : St) : callD T (ev T) 27 [encT m, .int .i64 n] st = some (.tup [encT (typField m n).1, .bool (typField m n).2], st) := by
  refine callD_pure (fn := F27) (r := .tup [encT (typField m n).1, .bool (typField m n).2]) (st1 := []) (st2 := []) rfl rfl (by simp) ?_ (by simp) (by simp)
  rw [ev_eq 27 F27 rfl, F27]
  unfold typField
  have hq : IntKind.wrap .i64 (n.tdiv 64) = n.tdiv 64 := by
    have h1 := Int.mul_tdiv_add_tmod n 64
    have h2 := Int.tmod_lt_of_pos n (by omega : (0 : Int) < 64)
    have h3 : -64 < n.tmod 64 := by have := Int.lt_tmod_of_pos n (by omega : (0 : Int) < 64); omega
    unfold in64 at hn
    rw [wrap64] <;> omega
  by_cases h0 : n < 0
  · have g : ¬ (0 ≤ n ∧ n.tdiv 64 < m.l.length) := by omega
    simp [h0, g, encT_K]
  · have h0' : 0 ≤ n := by omega
    have hd := Int.tdiv_nonneg h0' (by omega : (0:Int) ≤ 64)
    have hr := Int.tmod_nonneg 64 h0'
    have hr2 := Int.tmod_lt_of_pos n (by omega : (0 : Int) < 64)
    by_cases h1 : n.tdiv 64 < m.l.length
    · have g1 : ¬ ((m.l.length : Int) ≤ n.tdiv 64) := by omega
      have g2 : (n.tdiv 64).toNat < m.l.length := by omega
      have g3 : ¬ n.tdiv 64 < 0 := by omega
      have g4 : ¬ n.tmod 64 < 0 := by omega
      have hm : (n.tmod 64).toNat < (m.l[(n.tdiv 64).toNat]).l.length ↔ n.tmod 64 < (m.l[(n.tdiv 64).toNat]).l.length := by omega
      cases hp : (m.l[(n.tdiv 64).toNat]).l[(n.tmod 64).toNat]? with
      | none =>
        have hq2 : ((m.l[(n.tdiv 64).toNat]).l.length : Int) ≤ n.tmod 64 := by
          have := List.getElem?_eq_none_iff.1 hp; omega
        by_cases hk : (m.l[(n.tdiv 64).toNat]).k = 30
        · simp [h0, h0', h1, g1, hq, g2, g3, hk, hp, hq2, encT_K]
        · simp [h0, h0', h1, g1, hq, g2, g3, hk, hp, encT_K]
      | some p =>
        obtain ⟨hlt, hpe⟩ := List.getElem?_eq_some_iff.1 hp
        have hq2 : ¬ ((m.l[(n.tdiv 64).toNat]).l.length : Int) ≤ n.tmod 64 := by omega
        by_cases hk : (m.l[(n.tdiv 64).toNat]).k = 30
        · by_cases hk2 : p.k = 34
          · match hx : p.l with
            | [] => simp [h0, h0', h1, g1, hq, g2, g3, g4, hk, hp, hq2, hlt, hpe, hk2, hx, encT_K]
            | x :: y :: l => simp [h0, h0', h1, g1, hq, g2, g3, g4, hk, hp, hq2, hlt, hpe, hk2, hx, encT_K]
            | [x] =>
              simp [h0, h0', h1, g1, hq, g2, g3, g4, hk, hp, hq2, hlt, hpe, hk2, hx]
              rw [encT_eq]
          · simp [h0, h0', h1, g1, hq, g2, g3, g4, hk, hp, hq2, hlt, hpe, hk2, encT_K]
        · simp [h0, h0', h1, g1, hq, g2, g3, hk, hp, encT_K]
    · have g1 : (m.l.length : Int) ≤ n.tdiv 64 := by omega
      simp [h0, h0', h1, g1, hq, encT_K]

end Go.Nt.Ty
