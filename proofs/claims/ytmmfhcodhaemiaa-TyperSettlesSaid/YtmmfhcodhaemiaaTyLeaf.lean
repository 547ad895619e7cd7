/-
  TYPES OF EXPRESSIONS: the walks of what touches no heap.
-/
import Derived.Test.YtmmfhcodhaemiaaTyDefs
set_option linter.unusedSimpArgs false
namespace Go.Nt.Ty
open Go Go.Nt

theorem c19 (t : Tm) (st : St) : callD T (ev T) 19 [encT t] st = some (encT (litT t), st) := by
  refine callD_pure (fn := F19) (r := encT (litT t)) (st1 := []) (st2 := []) rfl rfl (by simp) ?_ (by simp) (by simp)
  rw [ev_eq 19 F19 rfl, F19]
  unfold litT
  by_cases h5 : t.k = 5
  · simp [h5, encT_K]
  · by_cases h6 : t.k = 6
    · simp [h5, h6, encT_K]
    · simp [h5, h6, encT_K]

theorem c22 (t : Tm) (k : Int) (st : St) : callD T (ev T) 22 [encT t, .int .i64 k] st = some (.bool (isT t k), st) := by
  refine callD_pure (fn := F22) (r := .bool (isT t k)) (st1 := []) (st2 := []) rfl rfl (by simp) ?_ (by simp) (by simp)
  rw [ev_eq 22 F22 rfl, F22]
  unfold isT
  by_cases h : t.k = k
  · cases hl : t.l with
    | nil => simp [h, hl]
    | cons x l => simp [h, hl]
  · simp [h]

theorem c13 (t : Tm) (st : St) : callD T (ev T) 13 [encT t] st = some (.bool (shapedT t), st) := by
  refine callD_pure (fn := F13) (r := .bool (shapedT t)) (st1 := []) (st2 := []) rfl rfl (by simp) ?_ (by simp) (by simp)
  rw [ev_eq 13 F13 rfl, F13]
  unfold shapedT
  by_cases h5 : t.k = 5
  · simp [h5]
  by_cases h7 : t.k = 7
  · simp [h7]
  by_cases h8 : t.k = 8
  · simp [h8]
  by_cases h9 : t.k = 9
  · simp [h9]
  by_cases h18 : t.k = 18
  · simp [h18]
  by_cases h6 : t.k = 6
  · by_cases q : t.l = []
    · by_cases n0 : t.n = 0
      · simp [h6, q, n0]
      · by_cases n1 : t.n = 1 <;> simp [h6, q, n0, n1]
    · simp [h6, q]
  by_cases h11 : t.k = 11
  · by_cases q : t.l.length = 1
    · by_cases n0 : t.n = 1
      · simp [h11, q, n0]
      · by_cases n1 : t.n = 2 <;> simp [h11, q, n0, n1]
    · simp [h11, q]
  by_cases h10 : t.k = 10
  · by_cases q : t.l.length = 2
    · by_cases n0 : 1 ≤ t.n
      · simp [h10, q, n0]
      · simp [h10, q, n0]
    · simp [h10, q]
  by_cases h13 : t.k = 13
  · simp [h13]
  by_cases h12 : t.k = 12
  · simp [h12]
  by_cases h14 : t.k = 14
  · simp [h14]
  by_cases h15 : t.k = 15
  · simp [h15]
  by_cases h16 : t.k = 16
  · simp [h16]
  by_cases h17 : t.k = 17
  · simp [h17]
  simp [h5, h6, h7, h8, h9, h10, h11, h12, h13, h14, h15, h16, h17, h18]


theorem good_len {t : Tm} (h : good t) : t.l.length ≤ 1000000 := ((good_iff t).1 h).2.2.2.2.2.1
theorem good_mem {t u : Tm} (h : good t) (hu : u ∈ t.l) : good u := ((good_iff t).1 h).2.2.2.2.2.2 u hu

/-- A made slice, written from its beginning on. -/
def madeH (l : List D) (i : Nat) (n : Nat) (z : D) : St := [.cells false 6 0 i false (l.take i ++ List.replicate (n - i) z)]

theorem l26 (t : Tm) (f : Tm → Tm) (hl : t.l.length ≤ 1000000) (hc : ∀ u, u ∈ t.l → ∀ st, callD T (ev T) 26 [encT u] st = some (encT (f u), st)) :
    ∀ (r i : Nat) (s : List D) (bx : List (Nat × List D)), r = t.l.length - i → i ≤ t.l.length → get s 2 = .lp 2 1 0 → getB bx 2 = (1, [.int .i64 0, .int .i64 0, .str [], .nils, .int .i64 0, .int .i64 0]) → get s 3 = .lp 3 1 0 →
    getB bx 3 = (1, [.int .i64 t.k, .int .i64 t.n, .str t.s, .rs 0 0 6 0 t.l.length true, .int .i64 0, .int .i64 0]) → get s 23 = slE 6 t.fl (encTs t.l) → get s 24 = .i t.l.length → get s 25 = .int .i64 i →
    Stops (lp T L26_0 ⟨⟨s, bx⟩, madeH (encTs (t.l.map f)) i t.l.length (encT T0)⟩) fun e s' b' st' => e = .exit 0 ∧ st' = madeH (encTs (t.l.map f)) t.l.length t.l.length (encT T0) ∧ get s' 2 = .lp 2 1 0 ∧ get s' 3 = .lp 3 1 0 ∧
      getB b' 2 = (1, [.int .i64 0, .int .i64 0, .str [], .nils, .int .i64 0, .int .i64 0]) ∧ getB b' 3 = (1, [.int .i64 t.k, .int .i64 t.n, .str t.s, .rs 0 0 6 0 t.l.length true, .int .i64 0, .int .i64 0]) := by
  intro r
  induction r with
  | zero =>
    intro i s bx hr hi h2 b2 h3 b3 h23 h24 h25
    have e : i = t.l.length := by omega
    subst e
    rw [lp_kL, L26_0]
    simp [h2, b2, h3, b3, h23, h24, h25]
  | succ r ihr =>
    intro i s bx hr hi h2 b2 h3 b3 h23 h24 h25
    have hlt : i < t.l.length := by omega
    have hw : IntKind.wrap .i64 ((i : Int) + 1) = i + 1 := by rw [wrap64] <;> omega
    have c0 := hc _ (List.getElem_mem hlt)
    have nx := ihr (i + 1)
    have e1 : (encTs (t.l.map f)).take i ++ List.replicate (t.l.length - i) (encT T0) = (encTs (t.l.map f)).take i ++ encT T0 :: List.replicate (t.l.length - (i + 1)) (encT T0) := by
      rw [show t.l.length - i = (t.l.length - (i + 1)) + 1 by omega, List.replicate_succ]
    have hlen : ((encTs (t.l.map f)).take i).length = i := by simp; omega
    have e2 : ((encTs (t.l.map f)).take i ++ encT T0 :: List.replicate (t.l.length - (i + 1)) (encT T0))[i]? = some (encT T0) := by
      rw [List.getElem?_append_right (by omega), hlen]; simp
    have e3 : ∀ y, y = encT (f t.l[i]) → ((encTs (t.l.map f)).take i ++ encT T0 :: List.replicate (t.l.length - (i + 1)) (encT T0)).set i y = (encTs (t.l.map f)).take (i + 1) ++ List.replicate (t.l.length - (i + 1)) (encT T0) := by
      rintro y rfl
      rw [List.set_append_right _ _ (by omega), hlen]
      have : (encTs (t.l.map f)).take (i + 1) = (encTs (t.l.map f)).take i ++ [encT (f t.l[i])] := by
        rw [List.take_succ_eq_append_getElem (by simpa using hlt)]; simp
      rw [this]; simp
    unfold madeH at nx ⊢
    rw [e1]
    rw [lp_kL, L26_0]
    have k0 := kHs_encT (st := [.cells false 6 0 i false ((encTs (t.l.map f)).take i ++ encT T0 :: List.replicate (t.l.length - (i + 1)) (encT T0))]) (i := 0) (y := f t.l[i]) rfl e2
    rw [e3 _ rfl] at k0
    simp [h2, b2, h3, b3, h23, h24, h25, hlt, hw, ← encT_eq, c0, k0]
    rw [← L26_0]
    simp at nx
    refine nx _ _ (by omega) (by omega) ?_ ?_ ?_ ?_ ?_ ?_ ?_
    iterate 7 simp [h2, b2, h3, b3, h23, h24]

theorem c26 (t : Tm) : good t → ∀ st, callD T (ev T) 26 [encT t] st = some (encT (bareT t), st) := by
  induction t using Tm.ind with
  | h t ih =>
    intro hg st
    have hl := good_len hg
    rw [bareT_eq]
    cases h0 : t.l with
    | nil =>
      refine callD_pure (fn := F26) (r := .agg [.int .i64 t.k, .int .i64 t.n, .str t.s, .nils, .int .i64 0, .int .i64 0]) (st1 := []) (st2 := []) rfl rfl (by simp) ?_ (by simp [encT, slE, bfl]) (by simp)
      rw [ev_eq 26 F26 rfl, F26]
      simp [h0, lp_kL, L26_0]
    | cons x l =>
      have e0 : t.l ≠ [] := by rw [h0]; simp
      rw [← h0]
      have hn : (t.l.length : Int) ≤ 4194304 := by omega
      have hp : 0 < t.l.length := List.length_pos_iff.2 e0
      have eb : bfl t.l = .full := by rw [h0]; rfl
      have hm : t.l.map bareT ≠ [] := by simp [e0]
      refine callD_pure (fn := F26) (r := .agg [.int .i64 t.k, .int .i64 t.n, .str t.s, .rs 0 0 6 0 t.l.length true, .int .i64 0, .int .i64 0]) (st1 := madeH (encTs (t.l.map bareT)) t.l.length t.l.length (encT T0))
        (st2 := [.cells false 6 0 (t.l.length + 1) true (encTs (t.l.map bareT))]) rfl rfl (by simp) ?_ ?_ (by simp)
      · rw [ev_eq 26 F26 rfl, F26]
        simp [hp, hn, most]
        refine (l26 t bareT hl (fun u hu st => ih u hu (good_mem hg hu) st) _ 0 _ _ rfl (by omega) ?_ ?_ ?_ ?_ ?_ ?_ ?_).use (fun r => kfin _ (kseq _ (kblock 0 r)) = _) ?_
        iterate 7 simp
        rintro e s' b' st ⟨rfl, rfl, q2, q3, p2, p3⟩
        simp [q2, q3, p2, p3]
      · simp [madeH, encT, eb, slE, List.take_of_length_le]

end Go.Nt.Ty
