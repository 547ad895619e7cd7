/-
  SAMENESS OF VALUES: the walks of both 'Same' and of 'EqualFunc'.
-/
import Derived.Test.YtknicjakdopilaaVaCount
set_option linter.unusedSimpArgs false
namespace Go.Nt.Va
open Go Go.Nt

theorem sames_len : ∀ (l k : List V), l.length ≠ k.length → sames l k = false
  | [], [], h => absurd rfl h
  | [], _ :: _, _ => by simp [sames]
  | _ :: _, [], _ => by simp [sames]
  | v :: l, u :: k, h => by simp only [sames]; rw [sames_len l k (by simpa using h), Bool.and_false]

theorem same_eq (a b : V) : same a b = (a.n == b.n && sames a.l b.l) := by cases a; cases b; simp [same, V.n, V.l]

theorem l11 (a b : V) (hl : a.l.length = b.l.length) (hb : a.l.length ≤ 9223372036854775807) (ih : ∀ u, u ∈ a.l → ∀ v st, callD T (ev T) 11 [encV u, encV v] st = some (.bool (same u v), st)) :
    ∀ (r i : Nat) (s : List D) (bx : List (Nat × List D)), r = a.l.length - i → i ≤ a.l.length → get s 2 = .lp 2 1 0 → get s 3 = .lp 3 1 0 → getB bx 2 = (1, (encV a).cells) → getB bx 3 = (1, (encV b).cells) → get s 5 = .int .i64 i →
    Stops (lp T L11_0 ⟨⟨s, bx⟩, []⟩) fun e s' _ st' => st' = [] ∧ e = (if sames (a.l.drop i) (b.l.drop i) then .exit 0 else .ret) ∧ (sames (a.l.drop i) (b.l.drop i) = false → get s' 4 = .bool false) := by
  intro r
  induction r with
  | zero =>
    intro i s bx hr hi h2 h3 b2 b3 h5
    have e : i = a.l.length := by omega
    subst e
    rw [lp_kL, L11_0]
    have q : sames (a.l.drop a.l.length) (b.l.drop a.l.length) = true := by rw [hl, List.drop_length, ← hl, List.drop_length]; rfl
    rw [q]
    simp [h2, h3, b2, b3, h5]
  | succ r ihr =>
    intro i s bx hr hi h2 h3 b2 b3 h5
    rw [lp_kL, L11_0]
    have hlt : i < a.l.length := by omega
    have hlt' : i < b.l.length := by omega
    have hw : IntKind.wrap .i64 ((i : Int) + 1) = i + 1 := by rw [wrap64] <;> omega
    have hm : a.l[i] ∈ a.l := List.getElem_mem hlt
    have q : sames (a.l.drop i) (b.l.drop i) = (same a.l[i] b.l[i] && sames (a.l.drop (i + 1)) (b.l.drop (i + 1))) := by
      rw [List.drop_eq_getElem_cons hlt, List.drop_eq_getElem_cons hlt', sames]
    cases hs : same a.l[i] b.l[i] with
    | true =>
      simp [h2, h3, b2, b3, h5, hlt, hlt', ih _ hm, hs, hw, q]
      rw [← L11_0]
      refine ihr (i + 1) _ _ (by omega) (by omega) ?_ ?_ b2 b3 ?_ <;> simp [h2, h3]
    | false =>
      simp [h2, h3, b2, b3, h5, hlt, hlt', ih _ hm, hs, hw, q]

theorem c11 (a : V) : a.ok → ∀ (b : V) (st : St), callD T (ev T) 11 [encV a, encV b] st = some (.bool (same a b), st) := by
  induction a using V.ind with
  | h a ih =>
    intro ha b st
    obtain ⟨_, hb, ho⟩ := (V.ok_iff a).1 ha
    refine callD_pure (fn := F11) rfl rfl (by simp) (r := .bool (same a b)) (st1 := []) (st2 := []) ?_ (by simp) (by simp)
    rw [ev_eq 11 F11 rfl, F11]
    by_cases hn : a.n = b.n
    · by_cases hl : a.l.length = b.l.length
      · simp [hn, hl, same_eq]
        refine (l11 a b hl hb (fun u hu => ih u hu (ho u hu)) _ 0 _ _ rfl (by omega) ?_ ?_ ?_ ?_ ?_).use (fun r => kfin _ (kseq _ (kblock 0 r)) = _) ?_
        iterate 5 simp [hn]
        rintro e s' b' st ⟨rfl, rfl, h⟩
        cases hs : sames a.l b.l <;> simp_all
      · simp [hn, hl, same_eq, sames_len _ _ hl]
    · simp [hn, same_eq]

theorem l23 (a b : List V) (fl fl' : Fl) (hl : a.length = b.length) (hb : a.length ≤ 9223372036854775807) (ih : ∀ u, u ∈ a → ∀ v st, callD T (ev T) 14 [encV u, encV v] st = some (.bool (same u v), st)) :
    ∀ (r i : Nat) (s : List D) (bx : List (Nat × List D)), r = a.length - i → i ≤ a.length → get s 15 = slE 2 fl (encVs a) → get s 1 = slE 2 fl' (encVs b) → get s 2 = .fn 14 [] [] → get s 16 = .i a.length → get s 17 = .int .i64 i →
    Stops (lp T L23_0 ⟨⟨s, bx⟩, []⟩) fun e s' _ st' => st' = [] ∧ e = (if sames (a.drop i) (b.drop i) then .exit 0 else .ret) ∧ (sames (a.drop i) (b.drop i) = false → get s' 6 = .bool false) := by
  intro r
  induction r with
  | zero =>
    intro i s bx hr hi h15 h1 h2 h16 h17
    have e : i = a.length := by omega
    subst e
    rw [lp_kL, L23_0]
    have q : sames (a.drop a.length) (b.drop a.length) = true := by rw [hl, List.drop_length, ← hl, List.drop_length]; rfl
    rw [q]
    simp [h15, h1, h2, h16, h17]
  | succ r ihr =>
    intro i s bx hr hi h15 h1 h2 h16 h17
    rw [lp_kL, L23_0]
    have hlt : i < a.length := by omega
    have hlt' : i < b.length := by omega
    have hw : IntKind.wrap .i64 ((i : Int) + 1) = i + 1 := by rw [wrap64] <;> omega
    have hm : a[i] ∈ a := List.getElem_mem hlt
    have q : sames (a.drop i) (b.drop i) = (same a[i] b[i] && sames (a.drop (i + 1)) (b.drop (i + 1))) := by
      rw [List.drop_eq_getElem_cons hlt, List.drop_eq_getElem_cons hlt', sames]
    cases hs : same a[i] b[i] with
    | true =>
      simp [h15, h1, h2, h16, h17, hlt, hlt', ← encV_eq, ih _ hm, hs, hw, q]
      rw [← L23_0]
      refine ihr (i + 1) _ _ (by omega) (by omega) ?_ ?_ ?_ ?_ ?_ <;> simp [h15, h1, h2, h16]
    | false =>
      simp [h15, h1, h2, h16, h17, hlt, hlt', ← encV_eq, ih _ hm, hs, hw, q]

theorem c23 (a b : List V) (fl fl' : Fl) (hb : a.length ≤ 9223372036854775807) (ih : ∀ u, u ∈ a → ∀ v st, callD T (ev T) 14 [encV u, encV v] st = some (.bool (same u v), st)) (st : St) :
    callD T (ev T) 23 [slE 2 fl (encVs a), slE 2 fl' (encVs b), .fn 14 [] []] st = some (.bool (sames a b), st) := by
  refine callD_pure (fn := F23) rfl rfl (by simp) (r := .bool (sames a b)) (st1 := []) (st2 := []) ?_ (by simp) (by simp)
  rw [ev_eq 23 F23 rfl, F23]
  by_cases hl : a.length = b.length
  · simp [hl]
    refine (l23 a b fl fl' hl hb ih _ 0 _ _ rfl (by omega) ?_ ?_ ?_ ?_ ?_).use (fun r => kfin _ (kseq _ (kblock 0 r)) = _) ?_
    iterate 5 simp [hl]
    rintro e s' b' st ⟨rfl, rfl, h⟩
    cases hs : sames a b <;> simp_all
  · simp [hl, sames_len _ _ hl]

theorem c14 (a : V) : a.ok → ∀ (b : V) (st : St), callD T (ev T) 14 [encV a, encV b] st = some (.bool (same a b), st) := by
  induction a using V.ind with
  | h a ih =>
    intro ha b st
    obtain ⟨_, hb, ho⟩ := (V.ok_iff a).1 ha
    refine callD_pure (fn := F14) rfl rfl (by simp) (r := .bool (same a b)) (st1 := []) (st2 := []) ?_ (by simp) (by simp)
    rw [ev_eq 14 F14 rfl, F14]
    have q := c23 a.l b.l a.fl b.fl hb (fun u hu => ih u hu (ho u hu)) []
    by_cases hn : a.n = b.n
    · simp [hn, q, same_eq]
    · simp [hn, same_eq]

end Go.Nt.Va
