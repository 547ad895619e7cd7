/-
  TERMS ALIKE; what else touches no heap.
-/
import Derived.Test.YtmmfhcodhaemiaaTyLeaf
set_option linter.unusedSimpArgs false
namespace Go.Nt.Ty
open Go Go.Nt

theorem sameTs_len : ∀ (l k : List Tm), l.length ≠ k.length → sameT.sameTs l k = false
  | [], [], h => absurd rfl h
  | [], _ :: _, _ => by simp [sameT.sameTs]
  | _ :: _, [], _ => by simp [sameT.sameTs]
  | v :: l, u :: k, h => by simp only [sameT.sameTs]; rw [sameTs_len l k (by simpa using h), Bool.and_false]

theorem l30 (a b : List Tm) (fl fl' : Fl) (hl : a.length = b.length) (hb : a.length ≤ 9223372036854775807) (ih : ∀ u, u ∈ a → ∀ (v : Tm) (st : St), callD T (ev T) 28 [encT u, encT v] st = some (.bool (sameT u v), st)) :
    ∀ (r i : Nat) (s : List D) (bx : List (Nat × List D)), r = a.length - i → i ≤ a.length → get s 15 = slE 6 fl (encTs a) → get s 1 = slE 6 fl' (encTs b) → get s 2 = .fn 28 [] [] → get s 16 = .i a.length → get s 17 = .int .i64 i →
    Stops (lp T L30_0 ⟨⟨s, bx⟩, []⟩) fun e s' _ st' => st' = [] ∧ e = (if sameT.sameTs (a.drop i) (b.drop i) then .exit 0 else .ret) ∧ (sameT.sameTs (a.drop i) (b.drop i) = false → get s' 6 = .bool false) := by
  intro r
  induction r with
  | zero =>
    intro i s bx hr hi h15 h1 h2 h16 h17
    have e : i = a.length := by omega
    subst e
    rw [lp_kL, L30_0]
    have q : sameT.sameTs (a.drop a.length) (b.drop a.length) = true := by rw [hl, List.drop_length, ← hl, List.drop_length]; rfl
    rw [q]
    simp [h15, h1, h2, h16, h17]
  | succ r ihr =>
    intro i s bx hr hi h15 h1 h2 h16 h17
    rw [lp_kL, L30_0]
    have hlt : i < a.length := by omega
    have hlt' : i < b.length := by omega
    have hw : IntKind.wrap .i64 ((i : Int) + 1) = i + 1 := by rw [wrap64] <;> omega
    have hm : a[i] ∈ a := List.getElem_mem hlt
    have q : sameT.sameTs (a.drop i) (b.drop i) = (sameT a[i] b[i] && sameT.sameTs (a.drop (i + 1)) (b.drop (i + 1))) := by
      rw [List.drop_eq_getElem_cons hlt, List.drop_eq_getElem_cons hlt', sameT.sameTs]
    cases hs : sameT a[i] b[i] with
    | true =>
      simp [h15, h1, h2, h16, h17, hlt, hlt', ← encT_eq, ih _ hm, hs, hw, q]
      rw [← L30_0]
      refine ihr (i + 1) _ _ (by omega) (by omega) ?_ ?_ ?_ ?_ ?_ <;> simp [h15, h1, h2, h16]
    | false =>
      simp [h15, h1, h2, h16, h17, hlt, hlt', ← encT_eq, ih _ hm, hs, hw, q]

theorem c30 (a b : List Tm) (fl fl' : Fl) (hb : a.length ≤ 9223372036854775807) (ih : ∀ u, u ∈ a → ∀ (v : Tm) (st : St), callD T (ev T) 28 [encT u, encT v] st = some (.bool (sameT u v), st)) (st : St) :
    callD T (ev T) 30 [slE 6 fl (encTs a), slE 6 fl' (encTs b), .fn 28 [] []] st = some (.bool (sameT.sameTs a b), st) := by
  refine callD_pure (fn := F30) rfl rfl (by simp) (r := .bool (sameT.sameTs a b)) (st1 := []) (st2 := []) ?_ (by simp) (by simp)
  rw [ev_eq 30 F30 rfl, F30]
  by_cases hl : a.length = b.length
  · simp [hl]
    refine (l30 a b fl fl' hl hb ih _ 0 _ _ rfl (by omega) ?_ ?_ ?_ ?_ ?_).use (fun r => kfin _ (kseq _ (kblock 0 r)) = _) ?_
    iterate 5 simp [hl]
    rintro e s' b' st ⟨rfl, rfl, h⟩
    cases hs : sameT.sameTs a b <;> simp_all
  · simp [hl, sameTs_len _ _ hl]

theorem c28 (a : Tm) : a.ok → ∀ (b : Tm) (st : St), callD T (ev T) 28 [encT a, encT b] st = some (.bool (sameT a b), st) := by
  induction a using Tm.ind with
  | h a ih =>
    intro ha b st
    obtain ⟨_, _, _, _, _, hb, ho⟩ := (Tm.ok_iff a).1 ha
    refine callD_pure (fn := F28) rfl rfl (by simp) (r := .bool (sameT a b)) (st1 := []) (st2 := []) ?_ (by simp) (by simp)
    rw [ev_eq 28 F28 rfl, F28]
    have q := c30 a.l b.l a.fl b.fl hb (fun u hu => ih u hu (ho u hu)) []
    by_cases hk : a.k = b.k
    · by_cases hn : a.n = b.n
      · by_cases hs : a.s = b.s
        · simp [hk, hn, hs, q, sameT_eq]
        · simp [hk, hn, hs, sameT_eq]
      · simp [hk, hn, sameT_eq]
    · simp [hk, sameT_eq]

theorem l9 (a : Tm) (hb : a.l.length ≤ 9223372036854775807) (ih : ∀ u, u ∈ a.l → ∀ st, callD T (ev T) 9 [encT u, encT u] st = some (.bool true, st)) :
    ∀ (r i : Nat) (s : List D) (bx : List (Nat × List D)), r = a.l.length - i → i ≤ a.l.length → get s 2 = .lp 2 1 0 → get s 3 = .lp 3 1 0 → getB bx 2 = (1, clT a) → getB bx 3 = (1, clT a) → get s 5 = .int .i64 i →
    Stops (lp T L9_0 ⟨⟨s, bx⟩, []⟩) fun e _ _ st' => st' = [] ∧ e = .exit 0 := by
  intro r
  induction r with
  | zero =>
    intro i s bx hr hi h2 h3 b2 b3 h5
    have e : i = a.l.length := by omega
    subst e
    rw [lp_kL, L9_0]
    simp [h2, h3, b2, b3, h5]
  | succ r ihr =>
    intro i s bx hr hi h2 h3 b2 b3 h5
    rw [lp_kL, L9_0]
    have hlt : i < a.l.length := by omega
    have hw : IntKind.wrap .i64 ((i : Int) + 1) = i + 1 := by rw [wrap64] <;> omega
    have c0 := ih _ (List.getElem_mem hlt) []
    simp [h2, h3, b2, b3, h5, hlt, ← encT_eq, c0, hw]
    rw [← L9_0]
    refine ihr (i + 1) _ _ (by omega) (by omega) ?_ ?_ b2 b3 ?_ <;> simp [h2, h3]

/-- A term is placed as itself. -/
theorem c9 (a : Tm) : a.ok → ∀ (st : St), callD T (ev T) 9 [encT a, encT a] st = some (.bool true, st) := by
  induction a using Tm.ind with
  | h a ih =>
    intro ha st
    obtain ⟨_, _, _, _, _, hb, ho⟩ := (Tm.ok_iff a).1 ha
    refine callD_pure (fn := F9) rfl rfl (by simp) (r := .bool true) (st1 := []) (st2 := []) ?_ (by simp) (by simp)
    rw [ev_eq 9 F9 rfl, F9]
    simp
    refine (l9 a hb (fun u hu => ih u hu (ho u hu)) _ 0 _ _ rfl (by omega) ?_ ?_ ?_ ?_ ?_).use (fun r => kfin _ (kseq _ (kblock 0 r)) = _) ?_
    iterate 5 simp
    rintro e s' b' st ⟨rfl, rfl⟩
    simp

/-- An expression that lies in the heap, as it is handed on. -/
def outD (k n : Int) (s : List UInt8) (L : D) : D := .agg [.int .i64 k, .int .i64 n, .str s, L, .int .i64 0, .int .i64 0]

theorem c20 (k n : Int) (s : List UInt8) (d : Tm) (hd : good d) (st : St) :
    callD T (ev T) 20 [.agg [.int .i64 k, .int .i64 n, .str s, .nils, .int .i64 0, .int .i64 0], encT d] st = some (encT (leafT k d), st) := by
  have h26 := c26 d hd []
  refine callD_pure (fn := F20) (r := encT (leafT k d)) (st1 := []) (st2 := []) rfl rfl (by simp) ?_ (by simp) (by simp)
  rw [ev_eq 20 F20 rfl, F20]
  unfold leafT
  by_cases h5 : k = 5
  · simp [h5, encT_K]
  by_cases h18 : k = 18
  · simp [h18, encT_K]
  by_cases h6 : k = 6
  · simp [h6, encT_K]
  simp [h5, h18, h6, ← encT_eq, h26]

theorem c21a (op : Int) (a b : Tm) (o2 : op ≤ 2) : ev T 21 [.int .i64 op, encT a, encT b] [] = some (encT (binT op a b), []) := by
  have a1 := c22 a 1 []
  have a2 := c22 a 2 []
  have b1 := c22 b 1 []
  have b2 := c22 b 2 []
  rw [ev_eq 21 F21 rfl, F21]
  unfold binT
  have o3 : ¬ 3 ≤ op := by omega
  have o5 : ¬ 5 ≤ op := by omega
  have o9 : ¬ 9 ≤ op := by omega
  generalize isT a 1 = x1 at *
  generalize isT a 2 = x2 at *
  generalize isT b 1 = y1 at *
  generalize isT b 2 = y2 at *
  cases x1 with
  | false =>
    cases x2 with
    | false => simp [← encT_eq, a1, a2, b1, b2, o2, o3, o5, o9, encT_K]
    | true => cases y2 <;> simp [← encT_eq, a1, a2, b1, b2, o2, o3, o5, o9, encT_K]
  | true =>
    cases y1 with
    | false =>
      cases x2 with
      | false => simp [← encT_eq, a1, a2, b1, b2, o2, o3, o5, o9, encT_K]
      | true => cases y2 <;> simp [← encT_eq, a1, a2, b1, b2, o2, o3, o5, o9, encT_K]
    | true =>
      cases x2 with
      | false => simp [← encT_eq, a1, a2, b1, b2, o2, o3, o5, o9, encT_K]
      | true => cases y2 <;> simp [← encT_eq, a1, a2, b1, b2, o2, o3, o5, o9, encT_K]

theorem c21b (op : Int) (a b : Tm) (o2 : ¬ op ≤ 2) (o4 : op ≤ 4) : ev T 21 [.int .i64 op, encT a, encT b] [] = some (encT (binT op a b), []) := by
  have a1 := c22 a 1 []
  have a2 := c22 a 2 []
  have b1 := c22 b 1 []
  have b2 := c22 b 2 []
  rw [ev_eq 21 F21 rfl, F21]
  unfold binT
  have o3 : 3 ≤ op := by omega
  have o5 : ¬ 5 ≤ op := by omega
  have o9 : ¬ 9 ≤ op := by omega
  generalize isT a 1 = x1 at *
  generalize isT a 2 = x2 at *
  generalize isT b 1 = y1 at *
  generalize isT b 2 = y2 at *
  cases x1 with
  | false =>
    cases x2 with
    | false => simp [← encT_eq, a1, a2, b1, b2, o2, o3, o4, o5, o9, encT_K]
    | true => cases y2 <;> simp [← encT_eq, a1, a2, b1, b2, o2, o3, o4, o5, o9, encT_K]
  | true =>
    cases y1 with
    | false =>
      cases x2 with
      | false => simp [← encT_eq, a1, a2, b1, b2, o2, o3, o4, o5, o9, encT_K]
      | true => cases y2 <;> simp [← encT_eq, a1, a2, b1, b2, o2, o3, o4, o5, o9, encT_K]
    | true =>
      cases x2 with
      | false => simp [← encT_eq, a1, a2, b1, b2, o2, o3, o4, o5, o9, encT_K]
      | true => cases y2 <;> simp [← encT_eq, a1, a2, b1, b2, o2, o3, o4, o5, o9, encT_K]

theorem c21c (op : Int) (a b : Tm) (o4 : ¬ op ≤ 4) (o8 : op ≤ 8) : ev T 21 [.int .i64 op, encT a, encT b] [] = some (encT (binT op a b), []) := by
  have a1 := c22 a 1 []
  have a2 := c22 a 2 []
  have b1 := c22 b 1 []
  have b2 := c22 b 2 []
  rw [ev_eq 21 F21 rfl, F21]
  unfold binT
  have o2 : ¬ op ≤ 2 := by omega
  have o3 : 3 ≤ op := by omega
  have o5 : 5 ≤ op := by omega
  have o9 : ¬ 9 ≤ op := by omega
  generalize isT a 1 = x1 at *
  generalize isT a 2 = x2 at *
  generalize isT b 1 = y1 at *
  generalize isT b 2 = y2 at *
  cases x1 with
  | false =>
    cases x2 with
    | false => simp [← encT_eq, a1, a2, b1, b2, o2, o3, o4, o5, o8, o9, encT_K]
    | true => cases y2 <;> simp [← encT_eq, a1, a2, b1, b2, o2, o3, o4, o5, o8, o9, encT_K]
  | true =>
    cases y1 with
    | false =>
      cases x2 with
      | false => simp [← encT_eq, a1, a2, b1, b2, o2, o3, o4, o5, o8, o9, encT_K]
      | true => cases y2 <;> simp [← encT_eq, a1, a2, b1, b2, o2, o3, o4, o5, o8, o9, encT_K]
    | true =>
      cases x2 with
      | false => simp [← encT_eq, a1, a2, b1, b2, o2, o3, o4, o5, o8, o9, encT_K]
      | true => cases y2 <;> simp [← encT_eq, a1, a2, b1, b2, o2, o3, o4, o5, o8, o9, encT_K]

theorem c21d (op : Int) (a b : Tm) (o8 : ¬ op ≤ 8) : ev T 21 [.int .i64 op, encT a, encT b] [] = some (encT (binT op a b), []) := by
  have a1 := c22 a 1 []
  have a2 := c22 a 2 []
  have b1 := c22 b 1 []
  have b2 := c22 b 2 []
  rw [ev_eq 21 F21 rfl, F21]
  unfold binT
  have o2 : ¬ op ≤ 2 := by omega
  have o3 : 3 ≤ op := by omega
  have o4 : ¬ op ≤ 4 := by omega
  have o5 : 5 ≤ op := by omega
  have o9 : 9 ≤ op := by omega
  generalize isT a 1 = x1 at *
  generalize isT a 2 = x2 at *
  generalize isT b 1 = y1 at *
  generalize isT b 2 = y2 at *
  cases x1 with
  | false =>
    cases x2 with
    | false => simp [← encT_eq, a1, a2, b1, b2, o2, o3, o4, o5, o8, o9, encT_K]
    | true => cases y2 <;> simp [← encT_eq, a1, a2, b1, b2, o2, o3, o4, o5, o8, o9, encT_K]
  | true =>
    cases y1 with
    | false =>
      cases x2 with
      | false => simp [← encT_eq, a1, a2, b1, b2, o2, o3, o4, o5, o8, o9, encT_K]
      | true => cases y2 <;> simp [← encT_eq, a1, a2, b1, b2, o2, o3, o4, o5, o8, o9, encT_K]
    | true =>
      cases x2 with
      | false => simp [← encT_eq, a1, a2, b1, b2, o2, o3, o4, o5, o8, o9, encT_K]
      | true => cases y2 <;> simp [← encT_eq, a1, a2, b1, b2, o2, o3, o4, o5, o8, o9, encT_K]

theorem c21 (op : Int) (a b : Tm) (st : St) : callD T (ev T) 21 [.int .i64 op, encT a, encT b] st = some (encT (binT op a b), st) := by
  refine callD_pure (fn := F21) (r := encT (binT op a b)) (st1 := []) (st2 := []) rfl rfl (by simp) ?_ (by simp) (by simp)
  by_cases o2 : op ≤ 2
  · exact c21a op a b o2
  · by_cases o4 : op ≤ 4
    · exact c21b op a b o2 o4
    · by_cases o8 : op ≤ 8
      · exact c21c op a b o4 o8
      · exact c21d op a b o8

end Go.Nt.Ty
