/-
  DOES A VALUE FIT A TYPE: the walks.
-/
import Derived.Test.YtknicjakdopilaaTmZeroRef
set_option linter.unusedSimpArgs false
namespace Go.Nt.Va
open Go Go.Nt

theorem l37 (l : List V) (fl : Fl) (m t : Tm) (g : V → Bool) (hl : l.length ≤ 9223372036854775807)
    (hc : ∀ u, u ∈ l → ∀ st, callD T (ev T) 33 [encV u, .iptr (encT m), .iptr (encT t)] st = some (.bool (g u), st)) :
    ∀ (r i : Nat) (s : List D) (bx : List (Nat × List D)), r = l.length - i → i ≤ l.length → get s 0 = slE 2 fl (encVs l) → get s 1 = .fn 33 [] [.iptr (encT m), .iptr (encT t)] → get s 7 = .i l.length → get s 8 = .int .i64 i →
    Stops (lp T L37_0 ⟨⟨s, bx⟩, []⟩) fun e s' _ st' => st' = [] ∧ (if (l.drop i).any g then e = .ret ∧ ∃ j : Nat, get s' 4 = .int .i64 j else e = .exit 0) := by
  intro r
  induction r with
  | zero =>
    intro i s bx hr hi h0 h1 h7 h8
    have e : i = l.length := by omega
    subst e
    rw [lp_kL, L37_0, List.drop_length]
    simp [h0, h1, h7, h8]
  | succ r ihr =>
    intro i s bx hr hi h0 h1 h7 h8
    have hlt : i < l.length := by omega
    have hw : IntKind.wrap .i64 ((i : Int) + 1) = i + 1 := by rw [wrap64] <;> omega
    have c0 := hc _ (List.getElem_mem hlt) []
    have q : (l.drop i).any g = (g l[i] || (l.drop (i + 1)).any g) := by rw [List.drop_eq_getElem_cons hlt, List.any_cons]
    rw [q]
    rw [lp_kL, L37_0]
    cases hg : g l[i] with
    | true =>
      rw [hg] at c0
      simp [h0, h1, h7, h8, hlt, hw, ← encV_eq, c0]
    | false =>
      rw [hg] at c0
      rw [Bool.false_or]
      have nx := ihr (i + 1)
      simp [h0, h1, h7, h8, hlt, hw, ← encV_eq, c0, -List.any_eq_true]
      rw [← L37_0]
      refine nx _ _ (by omega) (by omega) ?_ ?_ ?_ ?_
      iterate 4 simp [h0, h1, h7]

theorem c32 (l : List V) (fl : Fl) (m t : Tm) (g : V → Bool) (hl : l.length ≤ 9223372036854775807)
    (hc : ∀ u, u ∈ l → ∀ st, callD T (ev T) 33 [encV u, .iptr (encT m), .iptr (encT t)] st = some (.bool (g u), st)) (st : St) :
    callD T (ev T) 32 [slE 2 fl (encVs l), .fn 33 [] [.iptr (encT m), .iptr (encT t)]] st = some (.bool (l.any g), st) := by
  have h37 : ∃ j : Int, (decide (0 ≤ j) = l.any g) ∧ callD T (ev T) 37 [slE 2 fl (encVs l), .fn 33 [] [.iptr (encT m), .iptr (encT t)]] [] = some (.int .i64 j, []) := by
    have go : ∃ j : Int, (decide (0 ≤ j) = l.any g) ∧ ev T 37 [slE 2 fl (encVs l), .fn 33 [] [.iptr (encT m), .iptr (encT t)]] [] = some (.int .i64 j, []) := by
      rw [ev_eq 37 F37 rfl, F37]
      simp [-List.any_eq_true]
      refine (l37 l fl m t g hl hc _ 0 _ _ rfl (by omega) ?_ ?_ ?_ ?_).use (fun r => ∃ j : Int, decide (0 ≤ j) = l.any g ∧ kfin _ (kseq _ (kblock 0 r)) = some (.int .i64 j, [])) ?_
      iterate 4 simp
      rintro e s' b' st ⟨rfl, h⟩
      cases ha : l.any g with
      | true =>
        simp only [List.drop_zero, ha, if_true] at h
        obtain ⟨rfl, j, hj⟩ := h
        exact ⟨j, by simp, by simp [hj]⟩
      | false =>
        simp only [List.drop_zero, ha] at h
        simp at h
        subst h
        exact ⟨-1, by simp, by simp⟩
    obtain ⟨j, h1, h2⟩ := go
    exact ⟨j, h1, callD_pure (fn := F37) (st2 := []) rfl rfl (by simp) h2 (by simp) (by simp)⟩
  obtain ⟨j, h1, h2⟩ := h37
  refine callD_pure (fn := F32) (r := .bool (l.any g)) (st1 := []) (st2 := []) rfl rfl (by simp) ?_ (by simp) (by simp)
  rw [ev_eq 32 F32 rfl, F32, ← h1]
  simp [h2]


/-- Do values fit parts, one by one? -/
def zipF (f : Tm → V → Bool) : List Tm → List V → Bool
  | p :: ps, v :: vs => f (partT p) v && zipF f ps vs
  | _, _ => true

theorem l29 (m d : Tm) (v : V) (f : Tm → V → Bool) (hd : d.l.length ≤ 1000000) (hlen : v.l.length = d.l.length)
    (hc : ∀ p, p ∈ d.l → ∃ x, p.l = [x] ∧ ∀ u, u ∈ v.l → ∀ st, callD T (ev T) 29 [encT m, encT x, encV u] st = some (.bool (f x u), st)) :
    ∀ (r i : Nat) (s : List D) (bx : List (Nat × List D)), r = d.l.length - i → i ≤ d.l.length → get s 3 = .iptr (encT m) → get s 5 = .lp 5 1 0 → getB bx 5 = (1, cl v) → get s 72 = slE 6 d.fl (encTs d.l) → get s 73 = .i d.l.length → get s 74 = .int .i64 i →
    Stops (lp T L29_0 ⟨⟨s, bx⟩, []⟩) fun e s' _ st' => st' = [] ∧ (if zipF f (d.l.drop i) (v.l.drop i) then e = .exit 1 else e = .ret ∧ get s' 6 = .bool false) := by
  intro r
  induction r with
  | zero =>
    intro i s bx hr hi h3 h5 b5 h72 h73 h74
    have e : i = d.l.length := by omega
    subst e
    rw [lp_kL, L29_0, List.drop_length]
    simp [h3, h5, b5, h72, h73, h74, zipF]
  | succ r ihr =>
    intro i s bx hr hi h3 h5 b5 h72 h73 h74
    have hlt : i < d.l.length := by omega
    have hlt' : i < v.l.length := by omega
    have hw : IntKind.wrap .i64 ((i : Int) + 1) = i + 1 := by rw [wrap64] <;> omega
    obtain ⟨x, hx, hcx⟩ := hc _ (List.getElem_mem hlt)
    have c0 := hcx _ (List.getElem_mem hlt') []
    have ep : partT d.l[i] = x := by simp [partT, hx]
    have q : zipF f (d.l.drop i) (v.l.drop i) = (f x v.l[i] && zipF f (d.l.drop (i + 1)) (v.l.drop (i + 1))) := by
      rw [List.drop_eq_getElem_cons hlt, List.drop_eq_getElem_cons hlt', zipF, ep]
    rw [q]
    rw [lp_kL, L29_0]
    cases hg : f x v.l[i] with
    | true =>
      rw [hg] at c0
      rw [Bool.true_and]
      have nx := ihr (i + 1)
      simp [h3, h5, b5, h72, h73, h74, hlt, hlt', hw, hx, ← encV_eq, ← encT_eq, c0]
      rw [← L29_0]
      refine nx _ _ (by omega) (by omega) ?_ ?_ ?_ ?_ ?_ ?_
      iterate 6 simp [h3, h5, b5, h72, h73]
    | false =>
      rw [hg] at c0
      simp [h3, h5, b5, h72, h73, h74, hlt, hlt', hw, hx, ← encV_eq, ← encT_eq, c0]


/-- Does a value fit an array, given what fits records? -/
def fArr (rec : Int → V → Bool) : Tm → V → Bool
  | .mk k n _ _ l _ _, v => if k = 1 then v.l.isEmpty else if k = 2 then v.l.isEmpty && (decide (v.n = 0) || decide (v.n = 1)) else if k = 3 then (match l with | [x] => decide (v.n = 0) && (decide ((v.l.length : Int) = n) && v.l.all (fArr rec x)) | _ => false)
    else if k = 4 then rec n v else false

theorem fArr_eq (rec : Int → V → Bool) (t : Tm) (v : V) : fArr rec t v = if t.k = 1 then v.l.isEmpty else if t.k = 2 then v.l.isEmpty && (decide (v.n = 0) || decide (v.n = 1)) else if t.k = 3 then (match t.l with | [x] => decide (v.n = 0) && (decide ((v.l.length : Int) = t.n) && v.l.all (fArr rec x)) | _ => false)
    else if t.k = 4 then rec t.n v else false := by
  cases t with
  | mk k n s fl l a b =>
    match l with
    | [] => simp only [fArr, Tm.k, Tm.n, Tm.l] <;> rfl
    | [x] => simp only [fArr, Tm.k, Tm.n, Tm.l] <;> rfl
    | x :: y :: l => simp only [fArr, Tm.k, Tm.n, Tm.l] <;> rfl

def fRec (m : Tm) : Nat → Int → V → Bool
  | 0, _, _ => false
  | r + 1, n, v => if h : 0 ≤ n ∧ n < m.l.length then decide (v.n = 0) && (decide (v.l.length = (m.l[n.toNat]'(by omega)).l.length) && zipF (fArr (fRec m r)) (m.l[n.toNat]'(by omega)).l v.l) else false


theorem c33 (m t x : Tm) (u : V) (b : Bool) (hx : t.l = [x]) (h : callD T (ev T) 29 [encT m, encT x, encV u] [] = some (.bool b, [])) (st : St) :
    callD T (ev T) 33 [encV u, .iptr (encT m), .iptr (encT t)] st = some (.bool (!b), st) := by
  refine callD_pure (fn := F33) (r := .bool (!b)) (st1 := []) (st2 := []) rfl rfl (by simp) ?_ (by simp) (by simp)
  rw [ev_eq 33 F33 rfl, F33]
  simp [hx, ← encV_eq, ← encT_eq, h]

theorem c29a (m : Tm) (rec : Int → Int) (fr : Int → V → Bool)
    (hR : ∀ t, t.ok → t.k = 4 → t.l = [] → rec t.n ≠ 0 → ∀ v, v.ok → ∀ st, callD T (ev T) 29 [encT m, encT t, encV v] st = some (.bool (fr t.n v), st)) (t : Tm) :
    t.ok → arrM rec t ≠ 0 → ∀ v, v.ok → ∀ st, callD T (ev T) 29 [encT m, encT t, encV v] st = some (.bool (fArr fr t v), st) := by
  induction t using Tm.ind with
  | h t ih =>
    intro ht hne v hv st
    obtain ⟨k1, k2, k4, k5, k6, k7, k3⟩ := (Tm.ok_iff t).1 ht
    obtain ⟨v1, v2, v3⟩ := (V.ok_iff v).1 hv
    rw [arrM_eq] at hne
    by_cases h4 : t.k = 4
    · have h3 : ¬ t.k = 3 := by omega
      have hx : t.l = [] := by
        refine Classical.byContradiction fun g => hne ?_
        rw [if_neg (by simp [h4]), if_neg h3, if_neg (by simp [g])]
      rw [if_neg (by simp [h4]), if_neg h3, if_pos ⟨h4, hx⟩] at hne
      rw [fArr_eq, if_neg (by omega), if_neg (by omega), if_neg h3, if_pos h4]
      exact hR t ht h4 hx hne v hv st
    · refine callD_pure (fn := F29) (r := .bool (fArr fr t v)) (st1 := []) (st2 := []) rfl rfl (by simp) ?_ (by simp) (by simp)
      rw [ev_eq 29 F29 rfl, F29, fArr_eq]
      by_cases h1 : t.k = 1
      · cases hl : v.l with
        | nil => simp [h1, hl]
        | cons u l => simp [h1, hl]
      · by_cases h2 : t.k = 2
        · cases hl : v.l with
          | nil =>
            by_cases n0 : v.n = 0
            · simp [h1, h2, hl, n0]
            · by_cases n1 : v.n = 1
              · simp [h1, h2, hl, n1]
              · simp [h1, h2, hl, n0, n1]
          | cons u l => simp [h1, h2, hl]
        · by_cases h3 : t.k = 3
          · rw [if_neg (by simp [h3]), if_pos h3] at hne
            match hx : t.l with
            | [] => rw [hx] at hne; exact absurd rfl hne
            | x :: y :: l => rw [hx] at hne; exact absurd rfl hne
            | [x] =>
              rw [hx] at hne
              simp only at hne
              have hax : arrM rec x ≠ 0 := fun e => hne (by rw [e, prod0])
              have h32 := c32 v.l v.fl m t (fun u => !(fArr fr x u)) v2 (fun u hu st => c33 m t x u _ hx (ih x (by rw [hx]; simp) (k3 x (by rw [hx]; simp)) hax u (v3 u hu) []) st) []
              have e : v.l.any (fun u => !(fArr fr x u)) = !(v.l.all (fArr fr x)) := by rw [List.not_all_eq_any_not]
              rw [e] at h32
              by_cases n0 : v.n = 0
              · by_cases nl : (v.l.length : Int) = t.n
                · simp [h1, h2, h3, n0, nl, hx, h32, -List.all_eq_true]
                · simp [h1, h2, h3, n0, nl, hx]
              · simp [h1, h2, h3, n0, hx]
          · exact absurd (by rw [if_neg (by simp [h1, h2]), if_neg h3, if_neg (by simp [h4])]) hne


theorem c29 (m : Tm) (hm : m.ok) (hb2 : ∀ d, d ∈ m.l → d.l.length ≤ 1000000) : ∀ (r : Nat) (t : Tm), t.ok → arrM (recM m r) t ≠ 0 → ∀ v, v.ok → ∀ st,
    callD T (ev T) 29 [encT m, encT t, encV v] st = some (.bool (fArr (fRec m r) t v), st) := by
  obtain ⟨m1, m2, m4, m5, m6, m7, m3⟩ := (Tm.ok_iff m).1 hm
  intro r
  induction r with
  | zero => exact fun t => c29a m _ _ (fun t _ _ _ hne => absurd rfl hne) t
  | succ r ihr =>
    refine fun t => c29a m _ _ (fun t ht h4 hx hne v hv st => ?_) t
    obtain ⟨v1, v2, v3⟩ := (V.ok_iff v).1 hv
    rw [recM] at hne
    split at hne
    · next g =>
      have g3 : t.n.toNat < m.l.length := by omega
      have g1 : ¬ t.n < 0 := by omega
      split at hne
      · next hk =>
        have hdok := (Tm.ok_iff _).1 (m3 _ (List.getElem_mem g3))
        have e : fRec m (r + 1) t.n v = (decide (v.n = 0) && (decide (v.l.length = m.l[t.n.toNat].l.length) && zipF (fArr (fRec m r)) m.l[t.n.toNat].l v.l)) := by rw [fRec, dif_pos g]
        rw [e]
        refine callD_pure (fn := F29) (st1 := []) (st2 := []) (r := .bool (decide (v.n = 0) && (decide (v.l.length = m.l[t.n.toNat].l.length) && zipF (fArr (fRec m r)) m.l[t.n.toNat].l v.l))) rfl rfl (by simp) ?_ (by simp) (by simp)
        rw [ev_eq 29 F29 rfl, F29]
        by_cases n0 : v.n = 0
        · by_cases nl : v.l.length = m.l[t.n.toNat].l.length
          · simp [h4, hx, g1, g3, n0, nl]
            refine (l29 m m.l[t.n.toNat] v (fArr (fRec m r)) (hb2 _ (List.getElem_mem g3)) nl (fun p hp => ?_) _ 0 _ _ rfl (by omega) ?_ ?_ ?_ ?_ ?_ ?_).use (fun r => kfin _ (kseq _ (kblock 1 r)) = _) ?_
            · obtain ⟨x, hpx, hax⟩ := sumM_all _ _ _ hne p hp
              have hpo := (Tm.ok_iff _).1 (hdok.2.2.2.2.2.2 p hp)
              exact ⟨x, hpx, fun u hu st => ihr x (hpo.2.2.2.2.2.2 x (by rw [hpx]; simp)) hax u (v3 u hu) st⟩
            iterate 6 simp [n0, nl]
            rintro e s' b' st ⟨rfl, h⟩
            cases hz : zipF (fArr (fRec m r)) m.l[t.n.toNat].l v.l with
            | true => simp [hz] at h; simp [h]
            | false => simp [hz] at h; simp [h.1, h.2]
          · simp [h4, hx, g1, g3, n0, nl]
        · simp [h4, hx, g1, g3, n0]
      · exact absurd rfl hne
    · exact absurd rfl hne

end Go.Nt.Va
