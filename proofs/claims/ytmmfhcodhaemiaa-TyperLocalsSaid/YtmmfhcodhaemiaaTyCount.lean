/-
  COUNTING A TERM's PARTS: the walks of 'Count', 'Named', 'Large'.
-/
import Derived.Test.YtmmfhcodhaemiaaTmVal
import Derived.Test.YtmmfhcodhaemiaaTyIr
set_option linter.unusedSimpArgs false
namespace Go.Nt.Ty
open Go Go.Nt

theorem l10 (v : Tm) (hv : v.l.length ≤ 9223372036854775807) (ml : Int) (hm : 0 < ml ∧ ml ≤ 1000)
    (ih : ∀ u, u ∈ v.l → ∀ (left lv : Int) (st : St), 0 ≤ left ∧ left ≤ 1000 → 0 ≤ lv ∧ lv ≤ 1000 → ∃ r, callD T (ev T) 10 [encT u, .int .i64 left, .int .i64 lv] st = some (.int .i64 r, st) ∧ -1 ≤ r ∧ r ≤ left ∧ (0 ≤ r → r = left - cntT u)) :
    ∀ (r i : Nat) (left : Int) (s : List D) (bx : List (Nat × List D)), r = v.l.length - i → i ≤ v.l.length → -1 ≤ left ∧ left ≤ 1000 → get s 1 = .int .i64 left → get s 2 = .int .i64 ml → get s 3 = .lp 3 1 0 → getB bx 3 = (1, clT v) → get s 7 = .int .i64 i →
    Stops (lp T L10_0 ⟨⟨s, bx⟩, []⟩) fun e s' _ st' => st' = [] ∧ e = .exit 0 ∧ ∃ q, get s' 1 = .int .i64 q ∧ -1 ≤ q ∧ q ≤ left ∧ (0 ≤ q → q = left - cntTs (v.l.drop i)) := by
  intro r
  induction r with
  | zero =>
    intro i left s bx hr hi hl h1 h2 h3 b3 h7
    have e : i = v.l.length := by omega
    subst e
    rw [lp_kL, L10_0, List.drop_length]
    simp [h1, h2, h3, b3, h7, cntTs]
    omega
  | succ r ihr =>
    intro i left s bx hr hi hl h1 h2 h3 b3 h7
    rw [lp_kL, L10_0]
    have hlt : i < v.l.length := by omega
    have hw : IntKind.wrap .i64 ((i : Int) + 1) = i + 1 := by rw [wrap64] <;> omega
    have hw2 : IntKind.wrap .i64 (ml - 1) = ml - 1 := by rw [wrap64] <;> omega
    have hmem : v.l[i] ∈ v.l := List.getElem_mem hlt
    rw [List.drop_eq_getElem_cons hlt, cntTs]
    by_cases hn : 0 ≤ left
    · obtain ⟨q, hq, hq1, hq2, hq3⟩ := ih _ hmem left (ml - 1) [] ⟨hn, hl.2⟩ (by omega)
      simp [h1, h2, h3, b3, h7, hlt, hn, hw, hw2, hq]
      rw [← L10_0]
      refine (ihr (i + 1) q _ _ (by omega) (by omega) (by omega) ?_ ?_ ?_ b3 ?_).mono ?_
      iterate 4 simp [h2, h3]
      rintro e s' b' st ⟨rfl, rfl, q2, g1, g2, g3, g4⟩
      refine ⟨rfl, rfl, q2, g1, g2, by omega, fun g => ?_⟩
      have := g4 g
      have := hq3 (by omega)
      omega
    · simp [h1, h2, h3, b3, h7, hlt, hn]
      omega

theorem c10 (v : Tm) : v.ok → ∀ (left lv : Int) (st : St), 0 ≤ left ∧ left ≤ 1000 → 0 ≤ lv ∧ lv ≤ 1000 → ∃ r, callD T (ev T) 10 [encT v, .int .i64 left, .int .i64 lv] st = some (.int .i64 r, st) ∧ -1 ≤ r ∧ r ≤ left ∧ (0 ≤ r → r = left - cntT v) := by
  induction v using Tm.ind with
  | h v ih =>
    intro hv left lv st hl hm
    obtain ⟨k1, k2, k4, k5, k6, k7, k3⟩ := (Tm.ok_iff v).1 hv
    have go : ∃ r, ev T 10 [encT v, .int .i64 left, .int .i64 lv] [] = some (.int .i64 r, []) ∧ -1 ≤ r ∧ r ≤ left ∧ (0 ≤ r → r = left - cntT v) := by
      rw [ev_eq 10 F10 rfl, F10]
      by_cases h0 : lv ≤ 0
      · refine ⟨-1, ?_, by omega, by omega, by omega⟩
        simp [h0]
      · have hw : IntKind.wrap .i64 (left - 1) = left - 1 := by rw [wrap64] <;> omega
        simp [h0, hw]
        refine (l10 v k7 lv (by omega) (fun u hu => ih u hu (k3 u hu)) _ 0 (left - 1) _ _ rfl (by omega) (by omega) ?_ ?_ ?_ ?_ ?_).use (fun r => ∃ x, kfin _ (kseq _ (kblock 0 r)) = some (.int .i64 x, []) ∧ -1 ≤ x ∧ x ≤ left ∧ (0 ≤ x → x = left - cntT v)) ?_
        iterate 5 simp
        rintro e s' b' st ⟨rfl, rfl, q, g1, g2, g3, g4⟩
        refine ⟨q, by simp [g1], g2, by omega, fun g => ?_⟩
        have := g4 g
        rw [cntT_eq]
        simp at this
        omega
    obtain ⟨r, h1, h2, h3, h4⟩ := go
    exact ⟨r, callD_pure (fn := F10) (st2 := []) rfl rfl (by simp) h1 (by simp) (by simp), h2, h3, h4⟩

theorem l11 (v : Tm) (hv : v.l.length ≤ 9223372036854775807) (ih : ∀ u, u ∈ v.l → ∀ (st : St), ∃ r, callD T (ev T) 11 [encT u] st = some (.bool r, st)) :
    ∀ (r i : Nat) (s : List D) (bx : List (Nat × List D)), r = v.l.length - i → i ≤ v.l.length → get s 1 = .lp 1 1 0 → getB bx 1 = (1, clT v) → get s 3 = .int .i64 i →
    Stops (lp T L11_0 ⟨⟨s, bx⟩, []⟩) fun e s' _ st' => st' = [] ∧ (e = .exit 0 ∨ e = .ret ∧ get s' 2 = .bool true) := by
  intro r
  induction r with
  | zero =>
    intro i s bx hr hi h1 b1 h3
    have e : i = v.l.length := by omega
    subst e
    rw [lp_kL, L11_0]
    simp [h1, b1, h3]
  | succ r ihr =>
    intro i s bx hr hi h1 b1 h3
    rw [lp_kL, L11_0]
    have hlt : i < v.l.length := by omega
    have hw : IntKind.wrap .i64 ((i : Int) + 1) = i + 1 := by rw [wrap64] <;> omega
    obtain ⟨q, hq⟩ := ih _ (List.getElem_mem hlt) []
    cases q with
    | true => simp [h1, b1, h3, hlt, hw, hq]
    | false =>
      simp [h1, b1, h3, hlt, hw, hq]
      rw [← L11_0]
      refine ihr (i + 1) _ _ (by omega) (by omega) ?_ b1 ?_
      iterate 2 simp [h1]

theorem c11 (v : Tm) : v.ok → ∀ (st : St), ∃ r, callD T (ev T) 11 [encT v] st = some (.bool r, st) := by
  induction v using Tm.ind with
  | h v ih =>
    intro hv st
    obtain ⟨k1, k2, k4, k5, k6, k7, k3⟩ := (Tm.ok_iff v).1 hv
    have go : ∃ r, ev T 11 [encT v] [] = some (.bool r, []) := by
      rw [ev_eq 11 F11 rfl, F11]
      by_cases h0 : (40 : Int) < v.s.length
      · exact ⟨true, by simp [h0]⟩
      · simp [h0, -Bool.exists_bool]
        refine (l11 v k7 (fun u hu => ih u hu (k3 u hu)) _ 0 _ _ rfl (by omega) ?_ ?_ ?_).use (fun r => ∃ x, kfin _ (kseq _ (kblock 0 r)) = some (.bool x, [])) ?_
        iterate 3 simp
        rintro e s' b' st ⟨rfl, rfl | ⟨rfl, h⟩⟩
        · exact ⟨false, by simp⟩
        · exact ⟨true, by simp [h]⟩
    obtain ⟨r, h1⟩ := go
    exact ⟨r, callD_pure (fn := F11) (st2 := []) rfl rfl (by simp) h1 (by simp) (by simp)⟩

theorem c5 (v : Tm) (hv : v.ok) (st : St) : ∃ b, callD T (ev T) 5 [encT v] st = some (.bool b, st) ∧ (b = false → cntT v ≤ 400) := by
  obtain ⟨r, h1, h2, h3, h4⟩ := c10 v hv 400 70 [] (by omega) (by omega)
  obtain ⟨q, hq⟩ := c11 v hv []
  refine ⟨decide (r < 0) || q, callD_pure (fn := F5) rfl rfl (by simp) (r := .bool (decide (r < 0) || q)) (st1 := []) (st2 := []) ?_ (by simp) (by simp), fun h => ?_⟩
  · rw [ev_eq 5 F5 rfl, F5]
    by_cases g : r < 0
    · simp [← encT_eq, h1, g]
    · simp [← encT_eq, h1, g, hq]
  · simp at h
    have := h4 h.1
    omega

end Go.Nt.Ty
