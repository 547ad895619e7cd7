/-
  COUNTING A VALUE's PARTS: the walk of 'Count' and 'Large', of 'Same'.
-/
import Derived.Test.YtknicjakdopilaaVaIr
import Derived.Test.YtknicjakdopilaaVaRead
set_option linter.unusedSimpArgs false
namespace Go.Nt.Va
open Go Go.Nt

mutual
  def cnt : V → Nat
    | .mk _ _ l => cnts l + 1
  def cnts : List V → Nat
    | [] => 0
    | v :: l => cnt v + cnts l
end
theorem cnt_eq (v : V) : cnt v = cnts v.l + 1 := by cases v; simp [cnt, V.l]

theorem cnts_len (l : List V) : l.length ≤ cnts l := by
  induction l with
  | nil => simp [cnts]
  | cons v l ih => have := cnt_eq v; simp only [cnts, List.length_cons]; omega
theorem cnts_mem {l : List V} {u : V} (h : u ∈ l) : cnt u ≤ cnts l := by
  induction l with
  | nil => cases h
  | cons v l ih =>
    simp only [cnts]
    cases h with
    | head => omega
    | tail _ h => have := ih h; omega

theorem l21 (v : V) (hv : v.l.length ≤ 9223372036854775807) (ml : Int) (hm : 0 < ml ∧ ml ≤ 1000)
    (ih : ∀ u, u ∈ v.l → ∀ (left lv : Int) (st : St), 0 ≤ left ∧ left ≤ 1000 → 0 ≤ lv ∧ lv ≤ 1000 → ∃ r, callD T (ev T) 21 [encV u, .int .i64 left, .int .i64 lv] st = some (.int .i64 r, st) ∧ -1 ≤ r ∧ r ≤ left ∧ (0 ≤ r → r = left - cnt u)) :
    ∀ (r i : Nat) (left : Int) (s : List D) (bx : List (Nat × List D)), r = v.l.length - i → i ≤ v.l.length → -1 ≤ left ∧ left ≤ 1000 → get s 1 = .int .i64 left → get s 2 = .int .i64 ml → get s 3 = .lp 3 1 0 → getB bx 3 = (1, (encV v).cells) → get s 7 = .int .i64 i →
    Stops (lp T L21_0 ⟨⟨s, bx⟩, []⟩) fun e s' _ st' => st' = [] ∧ e = .exit 0 ∧ ∃ q, get s' 1 = .int .i64 q ∧ -1 ≤ q ∧ q ≤ left ∧ (0 ≤ q → q = left - cnts (v.l.drop i)) := by
  intro r
  induction r with
  | zero =>
    intro i left s bx hr hi hl h1 h2 h3 b3 h7
    have e : i = v.l.length := by omega
    subst e
    rw [lp_kL, L21_0, List.drop_length]
    simp [h1, h2, h3, b3, h7, cnts]
    omega
  | succ r ihr =>
    intro i left s bx hr hi hl h1 h2 h3 b3 h7
    rw [lp_kL, L21_0]
    have hlt : i < v.l.length := by omega
    have hw : IntKind.wrap .i64 ((i : Int) + 1) = i + 1 := by rw [wrap64] <;> omega
    have hw2 : IntKind.wrap .i64 (ml - 1) = ml - 1 := by rw [wrap64] <;> omega
    have hmem : v.l[i] ∈ v.l := List.getElem_mem hlt
    rw [List.drop_eq_getElem_cons hlt, cnts]
    by_cases hn : 0 ≤ left
    · obtain ⟨q, hq, hq1, hq2, hq3⟩ := ih _ hmem left (ml - 1) [] ⟨hn, hl.2⟩ (by omega)
      simp [h1, h2, h3, b3, h7, hlt, hn, hw, hw2, hq]
      rw [← L21_0]
      refine (ihr (i + 1) q _ _ (by omega) (by omega) (by omega) ?_ ?_ ?_ b3 ?_).mono ?_
      iterate 4 simp [h2, h3]
      rintro e s' b' st ⟨rfl, rfl, q2, g1, g2, g3, g4⟩
      refine ⟨rfl, rfl, q2, g1, g2, by omega, fun g => ?_⟩
      have := g4 g
      have := hq3 (by omega)
      omega
    · simp [h1, h2, h3, b3, h7, hlt, hn]
      omega

theorem c21 (v : V) : v.ok → ∀ (left lv : Int) (st : St), 0 ≤ left ∧ left ≤ 1000 → 0 ≤ lv ∧ lv ≤ 1000 → ∃ r, callD T (ev T) 21 [encV v, .int .i64 left, .int .i64 lv] st = some (.int .i64 r, st) ∧ -1 ≤ r ∧ r ≤ left ∧ (0 ≤ r → r = left - cnt v) := by
  induction v using V.ind with
  | h v ih =>
    intro hv left lv st hl hm
    obtain ⟨k1, k2, k3⟩ := (V.ok_iff v).1 hv
    have go : ∃ r, ev T 21 [encV v, .int .i64 left, .int .i64 lv] [] = some (.int .i64 r, []) ∧ -1 ≤ r ∧ r ≤ left ∧ (0 ≤ r → r = left - cnt v) := by
      rw [ev_eq 21 F21 rfl, F21]
      by_cases h0 : lv ≤ 0
      · refine ⟨-1, ?_, by omega, by omega, by omega⟩
        simp [h0]
      · have hw : IntKind.wrap .i64 (left - 1) = left - 1 := by rw [wrap64] <;> omega
        simp [h0, hw]
        refine (l21 v k2 lv (by omega) (fun u hu => ih u hu (k3 u hu)) _ 0 (left - 1) _ _ rfl (by omega) (by omega) ?_ ?_ ?_ ?_ ?_).use (fun r => ∃ x, kfin _ (kseq _ (kblock 0 r)) = some (.int .i64 x, []) ∧ -1 ≤ x ∧ x ≤ left ∧ (0 ≤ x → x = left - cnt v)) ?_
        iterate 5 simp
        rintro e s' b' st ⟨rfl, rfl, q, g1, g2, g3, g4⟩
        refine ⟨q, by simp [g1], g2, by omega, fun g => ?_⟩
        have := g4 g
        rw [cnt_eq]
        simp at this
        omega
    obtain ⟨r, h1, h2, h3, h4⟩ := go
    exact ⟨r, callD_pure (fn := F21) (st2 := []) rfl rfl (by simp) h1 (by simp) (by simp), h2, h3, h4⟩

theorem c6 (v : V) (hv : v.ok) (st : St) : ∃ b, callD T (ev T) 6 [encV v] st = some (.bool b, st) ∧ (b = false → cnt v ≤ 300) := by
  obtain ⟨r, h1, h2, h3, h4⟩ := c21 v hv 300 60 [] (by omega) (by omega)
  refine ⟨decide (r < 0), callD_pure (fn := F6) rfl rfl (by simp) (r := .bool (decide (r < 0))) (st1 := []) (st2 := []) ?_ (by simp) (by simp), fun h => ?_⟩
  · rw [ev_eq 6 F6 rfl, F6]
    simp [← encV_eq, h1]
  · simp at h
    have := h4 h
    omega

end Go.Nt.Va
