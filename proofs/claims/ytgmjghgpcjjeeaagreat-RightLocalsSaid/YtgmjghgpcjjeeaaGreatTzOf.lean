/-
  TYPES OF EXPRESSIONS: the walks of what touches no heap.
-/
import Derived.Test.YtgmjghgpcjjeeaaGreatRlX1
import Derived.Test.YtgmjghgpcjjeeaaGreatRtIr2
set_option linter.unusedSimpArgs false
namespace Go.Nt.Ty
open Go Go.Nt

theorem c205 (t : Tm) (st : St) : callD T (ev T) 205 [encT t] st = some (encT (litT t), st) := by
  refine callD_pure (fn := F205) (r := encT (litT t)) (st1 := []) (st2 := []) rfl rfl (by simp) ?_ (by simp) (by simp)
  rw [ev_eq 205 F205 rfl, F205]
  unfold litT
  by_cases h5 : t.k = 5
  · simp [h5, encT_K]
  · by_cases h6 : t.k = 6
    · simp [h5, h6, encT_K]
    · simp [h5, h6, encT_K]

theorem c208 (t : Tm) (k : Int) (st : St) : callD T (ev T) 208 [encT t, .int .i64 k] st = some (.bool (isT t k), st) := by
  refine callD_pure (fn := F208) (r := .bool (isT t k)) (st1 := []) (st2 := []) rfl rfl (by simp) ?_ (by simp) (by simp)
  rw [ev_eq 208 F208 rfl, F208]
  unfold isT
  by_cases h : t.k = k
  · cases hl : t.l with
    | nil => simp [h, hl]
    | cons x l => simp [h, hl]
  · simp [h]

theorem c151 (t : Tm) (st : St) : callD T (ev T) 151 [encT t] st = some (.bool (shapedT t), st) := by
  refine callD_pure (fn := F151) (r := .bool (shapedT t)) (st1 := []) (st2 := []) rfl rfl (by simp) ?_ (by simp) (by simp)
  rw [ev_eq 151 F151 rfl, F151]
  unfold shapedT
  by_cases h5 : t.k = 5
  · simp [h5]
  by_cases h7 : t.k = 7
  · simp [h7]
  by_cases h8 : t.k = 8
  · simp [h8]
  by_cases h9 : t.k = 9
  · simp [h9]
  by_cases h18 : t.k = 18
  · simp [h18]
  by_cases h6 : t.k = 6
  · by_cases q : t.l = []
    · by_cases n0 : t.n = 0
      · simp [h6, q, n0]
      · by_cases n1 : t.n = 1 <;> simp [h6, q, n0, n1]
    · simp [h6, q]
  by_cases h11 : t.k = 11
  · by_cases q : t.l.length = 1
    · by_cases n0 : t.n = 1
      · simp [h11, q, n0]
      · by_cases n1 : t.n = 2 <;> simp [h11, q, n0, n1]
    · simp [h11, q]
  by_cases h10 : t.k = 10
  · by_cases q : t.l.length = 2
    · by_cases n0 : 1 ≤ t.n
      · simp [h10, q, n0]
      · simp [h10, q, n0]
    · simp [h10, q]
  by_cases h13 : t.k = 13
  · simp [h13]
  by_cases h12 : t.k = 12
  · simp [h12]
  by_cases h14 : t.k = 14
  · simp [h14]
  by_cases h15 : t.k = 15
  · simp [h15]
  by_cases h16 : t.k = 16
  · simp [h16]
  by_cases h17 : t.k = 17
  · simp [h17]
  simp [h5, h6, h7, h8, h9, h10, h11, h12, h13, h14, h15, h16, h17, h18]


theorem good_len {t : Tm} (h : good t) : t.l.length ≤ 1000000 := ((good_iff t).1 h).2.2.2.2.2.1
theorem good_mem {t u : Tm} (h : good t) (hu : u ∈ t.l) : good u := ((good_iff t).1 h).2.2.2.2.2.2 u hu

/-- A made slice, written from its beginning on. -/
def madeH (l : List D) (i : Nat) (n : Nat) (z : D) : St := [.cells false 6 0 i false (l.take i ++ List.replicate (n - i) z)]

theorem l212 (t : Tm) (f : Tm → Tm) (hl : t.l.length ≤ 1000000) (hc : ∀ u, u ∈ t.l → ∀ st, callD T (ev T) 212 [encT u] st = some (encT (f u), st)) :
    ∀ (r i : Nat) (s : List D) (bx : List (Nat × List D)), r = t.l.length - i → i ≤ t.l.length → get s 2 = .lp 2 1 0 → getB bx 2 = (1, [.int .i64 0, .int .i64 0, .str [], .nils, .int .i64 0, .int .i64 0]) → get s 3 = .lp 3 1 0 →
    getB bx 3 = (1, [.int .i64 t.k, .int .i64 t.n, .str t.s, .rs 0 0 6 0 t.l.length true, .int .i64 0, .int .i64 0]) → get s 23 = slE 6 t.fl (encTs t.l) → get s 24 = .i t.l.length → get s 25 = .int .i64 i →
    Stops (lp T L212_0 ⟨⟨s, bx⟩, madeH (encTs (t.l.map f)) i t.l.length (encT T0)⟩) fun e s' b' st' => e = .exit 0 ∧ st' = madeH (encTs (t.l.map f)) t.l.length t.l.length (encT T0) ∧ get s' 2 = .lp 2 1 0 ∧ get s' 3 = .lp 3 1 0 ∧
      getB b' 2 = (1, [.int .i64 0, .int .i64 0, .str [], .nils, .int .i64 0, .int .i64 0]) ∧ getB b' 3 = (1, [.int .i64 t.k, .int .i64 t.n, .str t.s, .rs 0 0 6 0 t.l.length true, .int .i64 0, .int .i64 0]) := by
  intro r
  induction r with
  | zero =>
    intro i s bx hr hi h2 b2 h3 b3 h23 h24 h25
    have e : i = t.l.length := by omega
    subst e
    rw [lp_kL, L212_0]
    simp [h2, b2, h3, b3, h23, h24, h25]
  | succ r ihr =>
    intro i s bx hr hi h2 b2 h3 b3 h23 h24 h25
    have hlt : i < t.l.length := by omega
    have hw : IntKind.wrap .i64 ((i : Int) + 1) = i + 1 := by rw [wrap64] <;> omega
    have c0 := hc _ (List.getElem_mem hlt)
    have nx := ihr (i + 1)
    have e1 : (encTs (t.l.map f)).take i ++ List.replicate (t.l.length - i) (encT T0) = (encTs (t.l.map f)).take i ++ encT T0 :: List.replicate (t.l.length - (i + 1)) (encT T0) := by
      rw [show t.l.length - i = (t.l.length - (i + 1)) + 1 by omega, List.replicate_succ]
    have hlen : ((encTs (t.l.map f)).take i).length = i := by simp; omega
    have e2 : ((encTs (t.l.map f)).take i ++ encT T0 :: List.replicate (t.l.length - (i + 1)) (encT T0))[i]? = some (encT T0) := by
      rw [List.getElem?_append_right (by omega), hlen]; simp
    have e3 : ∀ y, y = encT (f t.l[i]) → ((encTs (t.l.map f)).take i ++ encT T0 :: List.replicate (t.l.length - (i + 1)) (encT T0)).set i y = (encTs (t.l.map f)).take (i + 1) ++ List.replicate (t.l.length - (i + 1)) (encT T0) := by
      rintro y rfl
      rw [List.set_append_right _ _ (by omega), hlen]
      have : (encTs (t.l.map f)).take (i + 1) = (encTs (t.l.map f)).take i ++ [encT (f t.l[i])] := by
        rw [List.take_succ_eq_append_getElem (by simpa using hlt)]; simp
      rw [this]; simp
    unfold madeH at nx ⊢
    rw [e1]
    rw [lp_kL, L212_0]
    have k0 := kHs_encT (st := [.cells false 6 0 i false ((encTs (t.l.map f)).take i ++ encT T0 :: List.replicate (t.l.length - (i + 1)) (encT T0))]) (i := 0) (y := f t.l[i]) rfl e2
    rw [e3 _ rfl] at k0
    simp [h2, b2, h3, b3, h23, h24, h25, hlt, hw, ← encT_eq, c0, k0]
    rw [← L212_0]
    simp at nx
    refine nx _ _ (by omega) (by omega) ?_ ?_ ?_ ?_ ?_ ?_ ?_
    iterate 7 simp [h2, b2, h3, b3, h23, h24]

theorem c212 (t : Tm) : good t → ∀ st, callD T (ev T) 212 [encT t] st = some (encT (bareT t), st) := by
  induction t using Tm.ind with
  | h t ih =>
    intro hg st
    have hl := good_len hg
    rw [bareT_eq]
    cases h0 : t.l with
    | nil =>
      refine callD_pure (fn := F212) (r := .agg [.int .i64 t.k, .int .i64 t.n, .str t.s, .nils, .int .i64 0, .int .i64 0]) (st1 := []) (st2 := []) rfl rfl (by simp) ?_ (by simp [encT, slE, bfl]) (by simp)
      rw [ev_eq 212 F212 rfl, F212]
      simp [h0, lp_kL, L212_0]
    | cons x l =>
      have e0 : t.l ≠ [] := by rw [h0]; simp
      rw [← h0]
      have hn : (t.l.length : Int) ≤ 134217728 := by omega
      have hp : 0 < t.l.length := List.length_pos_iff.2 e0
      have eb : bfl t.l = .full := by rw [h0] <;> rfl
      have hm : t.l.map bareT ≠ [] := by simp [e0]
      refine callD_pure (fn := F212) (r := .agg [.int .i64 t.k, .int .i64 t.n, .str t.s, .rs 0 0 6 0 t.l.length true, .int .i64 0, .int .i64 0]) (st1 := madeH (encTs (t.l.map bareT)) t.l.length t.l.length (encT T0))
        (st2 := [.cells false 6 0 (t.l.length + 1) true (encTs (t.l.map bareT))]) rfl rfl (by simp) ?_ ?_ (by simp)
      · rw [ev_eq 212 F212 rfl, F212]
        simp [hp, hn, most]
        refine (l212 t bareT hl (fun u hu st => ih u hu (good_mem hg hu) st) _ 0 _ _ rfl (by omega) ?_ ?_ ?_ ?_ ?_ ?_ ?_).use (fun r => kfin _ (kseq _ (kblock 0 r)) = _) ?_
        iterate 7 simp
        rintro e s' b' st ⟨rfl, rfl, q2, q3, p2, p3⟩
        simp [q2, q3, p2, p3]
      · simp [madeH, encT, eb, slE, List.take_of_length_le]

end Go.Nt.Ty

/-
  TERMS ALIKE; what else touches no heap.
-/
set_option linter.unusedSimpArgs false
namespace Go.Nt.Ty
open Go Go.Nt

theorem sameTs_len : ∀ (l k : List Tm), l.length ≠ k.length → sameT.sameTs l k = false
  | [], [], h => absurd rfl h
  | [], _ :: _, _ => by simp [sameT.sameTs]
  | _ :: _, [], _ => by simp [sameT.sameTs]
  | v :: l, u :: k, h => by simp only [sameT.sameTs]; rw [sameTs_len l k (by simpa using h), Bool.and_false]

theorem l94 (a b : List Tm) (fl fl' : Fl) (hl : a.length = b.length) (hb : a.length ≤ 9223372036854775807) (ih : ∀ u, u ∈ a → ∀ (v : Tm) (st : St), callD T (ev T) 235 [encT u, encT v] st = some (.bool (sameT u v), st)) :
    ∀ (r i : Nat) (s : List D) (bx : List (Nat × List D)), r = a.length - i → i ≤ a.length → get s 15 = slE 6 fl (encTs a) → get s 1 = slE 6 fl' (encTs b) → get s 2 = .fn 235 [] [] → get s 16 = .i a.length → get s 17 = .int .i64 i →
    Stops (lp T L94_0 ⟨⟨s, bx⟩, []⟩) fun e s' _ st' => st' = [] ∧ e = (if sameT.sameTs (a.drop i) (b.drop i) then .exit 0 else .ret) ∧ (sameT.sameTs (a.drop i) (b.drop i) = false → get s' 6 = .bool false) := by
  intro r
  induction r with
  | zero =>
    intro i s bx hr hi h15 h1 h2 h16 h17
    have e : i = a.length := by omega
    subst e
    rw [lp_kL, L94_0]
    have q : sameT.sameTs (a.drop a.length) (b.drop a.length) = true := by rw [hl, List.drop_length, ← hl, List.drop_length] <;> rfl
    rw [q]
    simp [h15, h1, h2, h16, h17]
  | succ r ihr =>
    intro i s bx hr hi h15 h1 h2 h16 h17
    rw [lp_kL, L94_0]
    have hlt : i < a.length := by omega
    have hlt' : i < b.length := by omega
    have hw : IntKind.wrap .i64 ((i : Int) + 1) = i + 1 := by rw [wrap64] <;> omega
    have hm : a[i] ∈ a := List.getElem_mem hlt
    have q : sameT.sameTs (a.drop i) (b.drop i) = (sameT a[i] b[i] && sameT.sameTs (a.drop (i + 1)) (b.drop (i + 1))) := by
      rw [List.drop_eq_getElem_cons hlt, List.drop_eq_getElem_cons hlt', sameT.sameTs]
    cases hs : sameT a[i] b[i] with
    | true =>
      simp [h15, h1, h2, h16, h17, hlt, hlt', ← encT_eq, ih _ hm, hs, hw, q]
      rw [← L94_0]
      refine ihr (i + 1) _ _ (by omega) (by omega) ?_ ?_ ?_ ?_ ?_ <;> simp [h15, h1, h2, h16]
    | false =>
      simp [h15, h1, h2, h16, h17, hlt, hlt', ← encT_eq, ih _ hm, hs, hw, q]

theorem c94 (a b : List Tm) (fl fl' : Fl) (hb : a.length ≤ 9223372036854775807) (ih : ∀ u, u ∈ a → ∀ (v : Tm) (st : St), callD T (ev T) 235 [encT u, encT v] st = some (.bool (sameT u v), st)) (st : St) :
    callD T (ev T) 94 [slE 6 fl (encTs a), slE 6 fl' (encTs b), .fn 235 [] []] st = some (.bool (sameT.sameTs a b), st) := by
  refine callD_pure (fn := F94) rfl rfl (by simp) (r := .bool (sameT.sameTs a b)) (st1 := []) (st2 := []) ?_ (by simp) (by simp)
  rw [ev_eq 94 F94 rfl, F94]
  by_cases hl : a.length = b.length
  · simp [hl]
    refine (l94 a b fl fl' hl hb ih _ 0 _ _ rfl (by omega) ?_ ?_ ?_ ?_ ?_).use (fun r => kfin _ (kseq _ (kblock 0 r)) = _) ?_
    iterate 5 simp [hl]
    rintro e s' b' st ⟨rfl, rfl, h⟩
    cases hs : sameT.sameTs a b <;> simp_all
  · simp [hl, sameTs_len _ _ hl]

theorem c235 (a : Tm) : a.ok → ∀ (b : Tm) (st : St), callD T (ev T) 235 [encT a, encT b] st = some (.bool (sameT a b), st) := by
  induction a using Tm.ind with
  | h a ih =>
    intro ha b st
    obtain ⟨_, _, _, _, _, hb, ho⟩ := (Tm.ok_iff a).1 ha
    refine callD_pure (fn := F235) rfl rfl (by simp) (r := .bool (sameT a b)) (st1 := []) (st2 := []) ?_ (by simp) (by simp)
    rw [ev_eq 235 F235 rfl, F235]
    have q := c94 a.l b.l a.fl b.fl hb (fun u hu => ih u hu (ho u hu)) []
    by_cases hk : a.k = b.k
    · by_cases hn : a.n = b.n
      · by_cases hs : a.s = b.s
        · simp [hk, hn, hs, q, sameT_eq]
        · simp [hk, hn, hs, sameT_eq]
      · simp [hk, hn, sameT_eq]
    · simp [hk, sameT_eq]

/-- An expression that lies in the heap, as it is handed on. -/
def outD (k n : Int) (s : List UInt8) (L : D) : D := .agg [.int .i64 k, .int .i64 n, .str s, L, .int .i64 0, .int .i64 0]

theorem c206 (k n : Int) (s : List UInt8) (d : Tm) (hd : good d) (st : St) :
    callD T (ev T) 206 [.agg [.int .i64 k, .int .i64 n, .str s, .nils, .int .i64 0, .int .i64 0], encT d] st = some (encT (leafT k d), st) := by
  have h26 := c212 d hd []
  refine callD_pure (fn := F206) (r := encT (leafT k d)) (st1 := []) (st2 := []) rfl rfl (by simp) ?_ (by simp) (by simp)
  rw [ev_eq 206 F206 rfl, F206]
  unfold leafT
  by_cases h5 : k = 5
  · simp [h5, encT_K]
  by_cases h18 : k = 18
  · simp [h18, encT_K]
  by_cases h6 : k = 6
  · simp [h6, encT_K]
  simp [h5, h18, h6, ← encT_eq, h26]

theorem c207a (op : Int) (a b : Tm) (o2 : op ≤ 2) : ev T 207 [.int .i64 op, encT a, encT b] [] = some (encT (binT op a b), []) := by
  have a1 := c208 a 1 []
  have a2 := c208 a 2 []
  have b1 := c208 b 1 []
  have b2 := c208 b 2 []
  rw [ev_eq 207 F207 rfl, F207]
  unfold binT
  have o3 : ¬ 3 ≤ op := by omega
  have o5 : ¬ 5 ≤ op := by omega
  have o9 : ¬ 9 ≤ op := by omega
  generalize isT a 1 = x1 at *
  generalize isT a 2 = x2 at *
  generalize isT b 1 = y1 at *
  generalize isT b 2 = y2 at *
  cases x1 with
  | false =>
    cases x2 with
    | false => simp [← encT_eq, a1, a2, b1, b2, o2, o3, o5, o9, encT_K]
    | true => cases y2 <;> simp [← encT_eq, a1, a2, b1, b2, o2, o3, o5, o9, encT_K]
  | true =>
    cases y1 with
    | false =>
      cases x2 with
      | false => simp [← encT_eq, a1, a2, b1, b2, o2, o3, o5, o9, encT_K]
      | true => cases y2 <;> simp [← encT_eq, a1, a2, b1, b2, o2, o3, o5, o9, encT_K]
    | true =>
      cases x2 with
      | false => simp [← encT_eq, a1, a2, b1, b2, o2, o3, o5, o9, encT_K]
      | true => cases y2 <;> simp [← encT_eq, a1, a2, b1, b2, o2, o3, o5, o9, encT_K]

theorem c207b (op : Int) (a b : Tm) (o2 : ¬ op ≤ 2) (o4 : op ≤ 4) : ev T 207 [.int .i64 op, encT a, encT b] [] = some (encT (binT op a b), []) := by
  have a1 := c208 a 1 []
  have a2 := c208 a 2 []
  have b1 := c208 b 1 []
  have b2 := c208 b 2 []
  rw [ev_eq 207 F207 rfl, F207]
  unfold binT
  have o3 : 3 ≤ op := by omega
  have o5 : ¬ 5 ≤ op := by omega
  have o9 : ¬ 9 ≤ op := by omega
  generalize isT a 1 = x1 at *
  generalize isT a 2 = x2 at *
  generalize isT b 1 = y1 at *
  generalize isT b 2 = y2 at *
  cases x1 with
  | false =>
    cases x2 with
    | false => simp [← encT_eq, a1, a2, b1, b2, o2, o3, o4, o5, o9, encT_K]
    | true => cases y2 <;> simp [← encT_eq, a1, a2, b1, b2, o2, o3, o4, o5, o9, encT_K]
  | true =>
    cases y1 with
    | false =>
      cases x2 with
      | false => simp [← encT_eq, a1, a2, b1, b2, o2, o3, o4, o5, o9, encT_K]
      | true => cases y2 <;> simp [← encT_eq, a1, a2, b1, b2, o2, o3, o4, o5, o9, encT_K]
    | true =>
      cases x2 with
      | false => simp [← encT_eq, a1, a2, b1, b2, o2, o3, o4, o5, o9, encT_K]
      | true => cases y2 <;> simp [← encT_eq, a1, a2, b1, b2, o2, o3, o4, o5, o9, encT_K]

theorem c207c (op : Int) (a b : Tm) (o4 : ¬ op ≤ 4) (o8 : op ≤ 8) : ev T 207 [.int .i64 op, encT a, encT b] [] = some (encT (binT op a b), []) := by
  have a1 := c208 a 1 []
  have a2 := c208 a 2 []
  have b1 := c208 b 1 []
  have b2 := c208 b 2 []
  rw [ev_eq 207 F207 rfl, F207]
  unfold binT
  have o2 : ¬ op ≤ 2 := by omega
  have o3 : 3 ≤ op := by omega
  have o5 : 5 ≤ op := by omega
  have o9 : ¬ 9 ≤ op := by omega
  generalize isT a 1 = x1 at *
  generalize isT a 2 = x2 at *
  generalize isT b 1 = y1 at *
  generalize isT b 2 = y2 at *
  cases x1 with
  | false =>
    cases x2 with
    | false => simp [← encT_eq, a1, a2, b1, b2, o2, o3, o4, o5, o8, o9, encT_K]
    | true => cases y2 <;> simp [← encT_eq, a1, a2, b1, b2, o2, o3, o4, o5, o8, o9, encT_K]
  | true =>
    cases y1 with
    | false =>
      cases x2 with
      | false => simp [← encT_eq, a1, a2, b1, b2, o2, o3, o4, o5, o8, o9, encT_K]
      | true => cases y2 <;> simp [← encT_eq, a1, a2, b1, b2, o2, o3, o4, o5, o8, o9, encT_K]
    | true =>
      cases x2 with
      | false => simp [← encT_eq, a1, a2, b1, b2, o2, o3, o4, o5, o8, o9, encT_K]
      | true => cases y2 <;> simp [← encT_eq, a1, a2, b1, b2, o2, o3, o4, o5, o8, o9, encT_K]

theorem c207d (op : Int) (a b : Tm) (o8 : ¬ op ≤ 8) : ev T 207 [.int .i64 op, encT a, encT b] [] = some (encT (binT op a b), []) := by
  have a1 := c208 a 1 []
  have a2 := c208 a 2 []
  have b1 := c208 b 1 []
  have b2 := c208 b 2 []
  rw [ev_eq 207 F207 rfl, F207]
  unfold binT
  have o2 : ¬ op ≤ 2 := by omega
  have o3 : 3 ≤ op := by omega
  have o4 : ¬ op ≤ 4 := by omega
  have o5 : 5 ≤ op := by omega
  have o9 : 9 ≤ op := by omega
  generalize isT a 1 = x1 at *
  generalize isT a 2 = x2 at *
  generalize isT b 1 = y1 at *
  generalize isT b 2 = y2 at *
  cases x1 with
  | false =>
    cases x2 with
    | false => simp [← encT_eq, a1, a2, b1, b2, o2, o3, o4, o5, o8, o9, encT_K]
    | true => cases y2 <;> simp [← encT_eq, a1, a2, b1, b2, o2, o3, o4, o5, o8, o9, encT_K]
  | true =>
    cases y1 with
    | false =>
      cases x2 with
      | false => simp [← encT_eq, a1, a2, b1, b2, o2, o3, o4, o5, o8, o9, encT_K]
      | true => cases y2 <;> simp [← encT_eq, a1, a2, b1, b2, o2, o3, o4, o5, o8, o9, encT_K]
    | true =>
      cases x2 with
      | false => simp [← encT_eq, a1, a2, b1, b2, o2, o3, o4, o5, o8, o9, encT_K]
      | true => cases y2 <;> simp [← encT_eq, a1, a2, b1, b2, o2, o3, o4, o5, o8, o9, encT_K]

theorem c207 (op : Int) (a b : Tm) (st : St) : callD T (ev T) 207 [.int .i64 op, encT a, encT b] st = some (encT (binT op a b), st) := by
  refine callD_pure (fn := F207) (r := encT (binT op a b)) (st1 := []) (st2 := []) rfl rfl (by simp) ?_ (by simp) (by simp)
  by_cases o2 : op ≤ 2
  · exact c207a op a b o2
  · by_cases o4 : op ≤ 4
    · exact c207b op a b o2 o4
    · by_cases o8 : op ≤ 8
      · exact c207c op a b o4 o8
      · exact c207d op a b o8

end Go.Nt.Ty

/-
  PARAMETERS' TYPES, fields: the walks.
-/
set_option linter.unusedSimpArgs false
namespace Go.Nt.Ty
open Go Go.Nt

theorem allT_len : ∀ (l k : List Tm), l.length ≠ k.length → allT l k = false
  | [], [], h => absurd rfl h
  | [], _ :: _, _ => by simp [allT]
  | _ :: _, [], _ => by simp [allT]
  | v :: l, u :: k, h => by simp only [allT]; rw [allT_len l k (by simpa using h), Bool.and_false]

theorem l211 (ts ps : List Tm) (fl fl' : Fl) (hl : ts.length = ps.length) (hb : ps.length ≤ 9223372036854775807) (ht : ∀ t, t ∈ ts → good t) (hp : ∀ p, p ∈ ps → good p) :
    ∀ (r i : Nat) (s : List D) (bx : List (Nat × List D)), r = ps.length - i → i ≤ ps.length → get s 12 = slE 6 fl' (encTs ps) → get s 0 = slE 6 fl (encTs ts) → get s 13 = .i ps.length → get s 14 = .int .i64 i →
    Stops (lp T L211_0 ⟨⟨s, bx⟩, []⟩) fun e s' _ st' => st' = [] ∧ e = (if allT (ts.drop i) (ps.drop i) then .exit 0 else .ret) ∧ (allT (ts.drop i) (ps.drop i) = false → get s' 4 = .bool false) := by
  intro r
  induction r with
  | zero =>
    intro i s bx hr hi h12 h0 h13 h14
    have e : i = ps.length := by omega
    subst e
    rw [lp_kL, L211_0]
    have q : allT (ts.drop ps.length) (ps.drop ps.length) = true := by rw [List.drop_length, ← hl, List.drop_length] <;> rfl
    rw [q]
    simp [h12, h0, h13, h14]
  | succ r ihr =>
    intro i s bx hr hi h12 h0 h13 h14
    rw [lp_kL, L211_0]
    have hlt : i < ps.length := by omega
    have hlt' : i < ts.length := by omega
    have hw : IntKind.wrap .i64 ((i : Int) + 1) = i + 1 := by rw [wrap64] <;> omega
    have gp := hp _ (List.getElem_mem hlt)
    have gt := ht _ (List.getElem_mem hlt')
    have q : allT (ts.drop i) (ps.drop i) = ((decide (ps[i].l.length = 1) && sameT ts[i] (bareT (ps[i].l.headD T0))) && allT (ts.drop (i + 1)) (ps.drop (i + 1))) := by
      rw [List.drop_eq_getElem_cons hlt, List.drop_eq_getElem_cons hlt', allT]
    match hx : ps[i].l with
    | [] => simp [h12, h0, h13, h14, hlt, hlt', hw, q, hx]
    | x :: y :: l => simp [h12, h0, h13, h14, hlt, hlt', hw, q, hx]
    | [x] =>
      have gx := good_mem gp (by rw [hx]; simp : x ∈ ps[i].l)
      have h26 := c212 x gx []
      have h28 := c235 ts[i] (good_ok _ gt) (bareT x) []
      cases hs : sameT ts[i] (bareT x) with
      | true =>
        rw [hs] at h28
        simp [h12, h0, h13, h14, hlt, hlt', hw, q, hx, ← encT_eq, h26, h28, hs]
        rw [← L211_0]
        refine ihr (i + 1) _ _ (by omega) (by omega) ?_ ?_ ?_ ?_ <;> simp [h12, h0, h13]
      | false =>
        rw [hs] at h28
        simp [h12, h0, h13, h14, hlt, hlt', hw, q, hx, ← encT_eq, h26, h28, hs]

theorem c211e (ts ps : List Tm) (fl fl' : Fl) (hb : ps.length ≤ 9223372036854775807) (ht : ∀ t, t ∈ ts → good t) (hp : ∀ p, p ∈ ps → good p) :
    ev T 211 [slE 6 fl (encTs ts), slE 6 fl' (encTs ps)] [] = some (.bool (allT ts ps), []) := by
  rw [ev_eq 211 F211 rfl, F211]
  by_cases hl : ts.length = ps.length
  · simp [hl]
    refine (l211 ts ps fl fl' hl hb ht hp _ 0 _ _ rfl (by omega) ?_ ?_ ?_ ?_).use (fun r => kfin _ (kseq _ (kblock 0 r)) = _) ?_
    iterate 4 simp [hl]
    rintro e s' b' st ⟨rfl, rfl, h⟩
    cases hs : allT ts ps <;> simp_all
  · simp [hl, allT_len _ _ hl]

theorem c246 (m : Tm) (n : Int) (hn : in64 n) (st : St) : callD T (ev T) 246 [encT m, .int .i64 n] st = some (.tup [encT (typField m n).1, .bool (typField m n).2], st) := by
  refine callD_pure (fn := F246) (r := .tup [encT (typField m n).1, .bool (typField m n).2]) (st1 := []) (st2 := []) rfl rfl (by simp) ?_ (by simp) (by simp)
  rw [ev_eq 246 F246 rfl, F246]
  unfold typField
  have hq : IntKind.wrap .i64 (n.tdiv 64) = n.tdiv 64 := by
    have h1 := Int.mul_tdiv_add_tmod n 64
    have h2 := Int.tmod_lt_of_pos n (by omega : (0 : Int) < 64)
    have h3 : -64 < n.tmod 64 := by have := Int.lt_tmod_of_pos n (by omega : (0 : Int) < 64); omega
    unfold in64 at hn
    rw [wrap64] <;> omega
  by_cases h0 : n < 0
  · have g : ¬ (0 ≤ n ∧ n.tdiv 64 < m.l.length) := by omega
    simp [h0, g, encT_K]
  · have h0' : 0 ≤ n := by omega
    have hd := Int.tdiv_nonneg h0' (by omega : (0:Int) ≤ 64)
    have hr := Int.tmod_nonneg 64 h0'
    have hr2 := Int.tmod_lt_of_pos n (by omega : (0 : Int) < 64)
    by_cases h1 : n.tdiv 64 < m.l.length
    · have g1 : ¬ ((m.l.length : Int) ≤ n.tdiv 64) := by omega
      have g2 : (n.tdiv 64).toNat < m.l.length := by omega
      have g3 : ¬ n.tdiv 64 < 0 := by omega
      have g4 : ¬ n.tmod 64 < 0 := by omega
      have hm : (n.tmod 64).toNat < (m.l[(n.tdiv 64).toNat]).l.length ↔ n.tmod 64 < (m.l[(n.tdiv 64).toNat]).l.length := by omega
      cases hp : (m.l[(n.tdiv 64).toNat]).l[(n.tmod 64).toNat]? with
      | none =>
        have hq2 : ((m.l[(n.tdiv 64).toNat]).l.length : Int) ≤ n.tmod 64 := by
          have := List.getElem?_eq_none_iff.1 hp; omega
        by_cases hk : (m.l[(n.tdiv 64).toNat]).k = 30
        · simp [h0, h0', h1, g1, hq, g2, g3, hk, hp, hq2, encT_K]
        · simp [h0, h0', h1, g1, hq, g2, g3, hk, hp, encT_K]
      | some p =>
        obtain ⟨hlt, hpe⟩ := List.getElem?_eq_some_iff.1 hp
        have hq2 : ¬ ((m.l[(n.tdiv 64).toNat]).l.length : Int) ≤ n.tmod 64 := by omega
        by_cases hk : (m.l[(n.tdiv 64).toNat]).k = 30
        · by_cases hk2 : p.k = 34
          · match hx : p.l with
            | [] => simp [h0, h0', h1, g1, hq, g2, g3, g4, hk, hp, hq2, hlt, hpe, hk2, hx, encT_K]
            | x :: y :: l => simp [h0, h0', h1, g1, hq, g2, g3, g4, hk, hp, hq2, hlt, hpe, hk2, hx, encT_K]
            | [x] =>
              simp [h0, h0', h1, g1, hq, g2, g3, g4, hk, hp, hq2, hlt, hpe, hk2, hx]
              rw [encT_eq]
          · simp [h0, h0', h1, g1, hq, g2, g3, g4, hk, hp, hq2, hlt, hpe, hk2, encT_K]
        · simp [h0, h0', h1, g1, hq, g2, g3, hk, hp, encT_K]
    · have g1 : (m.l.length : Int) ≤ n.tdiv 64 := by omega
      simp [h0, h0', h1, g1, hq, encT_K]

end Go.Nt.Ty

/-
  TYPES OF EXPRESSIONS: the walks of what reads the typer.
-/
set_option linter.unusedSimpArgs false
namespace Go.Nt.Ty
open Go Go.Nt

/-- The typer, as it lies in the heap. -/
def tyO (m : Tm) (lv : D) (a e : Int) (md : Nat) : Ob :=
  .cells true 9 0 md false [.agg [.int .i64 m.k, .int .i64 m.n, .str m.s, slE 6 m.fl (encTs m.l), .int .i64 m.a, .int .i64 m.b, lv, .int .i64 a, .int .i64 e]]

/-- The locals, as they lie in the heap. -/
def LocR (st : St) (lv : D) (locs : List Tm) : Prop :=
  (∃ fl, lv = slE 6 fl (encTs locs)) ∨ ∃ id ver md fr full more, lv = .rs id ver 6 0 locs.length full ∧ St.at st id = .cells false 6 ver md fr (encTs (locs ++ more)) ∧ id < st.length

abbrev z6 : List D := [.int .i64 0, .int .i64 0, .str [], .nils, .int .i64 0, .int .i64 0]

theorem l204 (d : Tm) (st : St) (hl : d.l.length ≤ 9223372036854775807) :
    ∀ (r i : Nat) (s : List D) (bx : List (Nat × List D)), r = d.l.length - i → i ≤ d.l.length → get s 6 = .lp 6 1 0 → getB bx 6 = (1, z6) → get s 8 = .lp 8 1 0 → getB bx 8 = (1, clT d) →
    get s 77 = slE 6 d.fl (encTs d.l) → get s 78 = .i d.l.length → get s 79 = .int .i64 i →
    Stops (lp T L204_0 ⟨⟨s, bx⟩, st⟩) fun e s' b' st' => st' = st ∧ get s' 6 = .lp 6 1 0 ∧ getB b' 6 = (1, z6) ∧ (if (d.l.drop i).any badPart then e = .ret ∧ get s' 7 = .bool false else e = .exit 1 ∧ get s' 8 = .lp 8 1 0 ∧ getB b' 8 = (1, clT d)) := by
  intro r
  induction r with
  | zero =>
    intro i s bx hr hi h6 b6 h8 b8 h77 h78 h79
    have e : i = d.l.length := by omega
    subst e
    rw [lp_kL, L204_0, List.drop_length]
    simp [h6, b6, h8, b8, h77, h78, h79]
  | succ r ihr =>
    intro i s bx hr hi h6 b6 h8 b8 h77 h78 h79
    have hlt : i < d.l.length := by omega
    have hw : IntKind.wrap .i64 ((i : Int) + 1) = i + 1 := by rw [wrap64] <;> omega
    have q : (d.l.drop i).any badPart = (badPart d.l[i] || (d.l.drop (i + 1)).any badPart) := by rw [List.drop_eq_getElem_cons hlt, List.any_cons]
    rw [q, badPart]
    rw [lp_kL, L204_0]
    by_cases hk : d.l[i].k = 34
    · by_cases hn : d.l[i].l.length = 1
      · have nx := ihr (i + 1)
        simp only [hk, hn, ne_eq, not_true_eq_false, decide_false, Bool.false_or]
        simp [h6, b6, h8, b8, h77, h78, h79, hlt, hw, hk, hn, -List.any_eq_true]
        rw [← L204_0]
        refine nx _ _ (by omega) (by omega) ?_ ?_ ?_ ?_ ?_ ?_ ?_
        iterate 7 simp [h6, b6, h8, b8, h77, h78]
      · simp [h6, b6, h8, b8, h77, h78, h79, hlt, hw, hk, hn]
    · simp [h6, b6, h8, b8, h77, h78, h79, hlt, hw, hk]

variable {m : Tm} {lv : D} {locs : List Tm} {at0 e0 : Int} {md oi : Nat}

theorem c204 {st : St} (h0 : St.at st oi = tyO m lv at0 e0 md) (hl : ∀ d, d ∈ m.l → d.l.length ≤ 1000000) (n kind : Int) :
    callD T (ev T) 204 [.hp oi 0 9 0 0, .int .i64 n, .int .i64 kind] st = some (.tup [encT (declT m n kind).1, .bool (declT m n kind).2], st) := by
  refine callD_pop (fn := F204) (r := .tup [encT (declT m n kind).1, .bool (declT m n kind).2]) (st1 := st) (st2 := st) rfl rfl (by simp) ?_ (by simp) (by simp) (by simp)
  rw [ev_eq 204 F204 rfl, F204]
  unfold declT
  by_cases g : 0 ≤ n ∧ n < m.l.length
  · have g1 : ¬ n < 0 := by omega
    have g2 : ¬ (m.l.length : Int) ≤ n := by omega
    have g3 : n.toNat < m.l.length := by omega
    have hd := hl _ (List.getElem_mem g3)
    rw [dif_pos g]
    by_cases hk : (m.l[n.toNat]).k = kind
    · subst hk
      by_cases k31 : (m.l[n.toNat]).k = 31
      · match hx : (m.l[n.toNat]).l with
        | [] =>
          simp [h0, tyO, g1, g2, g3, k31, hx]
          rw [encT_eq (m.l[n.toNat]), k31, hx]; simp
        | x :: y :: l =>
          simp [h0, tyO, g1, g2, g3, k31, hx]
          rw [encT_eq (m.l[n.toNat]), k31, hx]; simp
        | [x] =>
          have h19 := c205 x st
          rw [encT_eq (litT x)] at h19
          by_cases hz : (litT x).k = 0
          · simp [h0, tyO, g1, g2, g3, k31, hx, ← encT_eq x, h19, hz]
            rw [encT_eq (m.l[n.toNat]), k31, hx]; simp
          · simp [h0, tyO, g1, g2, g3, k31, hx, ← encT_eq x, h19, hz]
            rw [encT_eq (m.l[n.toNat]), k31, hx]; simp
      · by_cases k32 : (m.l[n.toNat]).k = 32
        · simp [h0, tyO, g1, g2, g3, k32]
          rw [encT_eq (m.l[n.toNat]), k32]
        · by_cases k33 : (m.l[n.toNat]).k = 33
          · simp [h0, tyO, g1, g2, g3, k33]
            rw [encT_eq (m.l[n.toNat]), k33]
          · simp [h0, tyO, g1, g2, g3, k31, k32, k33, -List.any_eq_true]
            refine (l204 (m.l[n.toNat]) st (by omega) _ 0 _ _ rfl (by omega) ?_ ?_ ?_ ?_ ?_ ?_ ?_).use (fun r => kfin _ (kseq _ (kblock 1 r)) = _) ?_
            iterate 7 simp
            rintro e s' b' st ⟨rfl, q6, p6, h⟩
            cases ha : (m.l[n.toNat]).l.any badPart with
            | true =>
              rw [List.drop_zero, ha] at h
              simp at h
              obtain ⟨rfl, h7⟩ := h
              simp [q6, p6, h7, encT_K]
            | false =>
              rw [List.drop_zero, ha] at h
              simp at h
              obtain ⟨rfl, q8, p8⟩ := h
              simp [q6, p6, q8, p8, ← encT_eq]
    · simp [h0, tyO, g1, g2, g3, hk, encT_K]
  · rw [dif_neg g]
    by_cases g1 : n < 0
    · simp [h0, tyO, g1, encT_K]
    · have g2 : (m.l.length : Int) ≤ n := by omega
      simp [h0, tyO, g1, g2, encT_K]


theorem litT_if (t : Tm) : (litT t).k ≠ 0 → True := fun _ => trivial

theorem localT_some {locs : List Tm} {n : Int} (h : 0 ≤ n ∧ n < locs.length) : localT locs n = some (locs[locs.length - 1 - n.toNat]'(by omega)) := by
  rw [localT, if_pos h]; exact List.getElem?_eq_getElem _

theorem c153 {st : St} (h0 : St.at st oi = tyO m lv at0 e0 md) (hL : LocR st lv locs) (hl : ∀ d, d ∈ m.l → d.l.length ≤ 1000000) (hlo : locs.length ≤ 1000000) (t : Tm) :
    callD T (ev T) 153 [.hp oi 0 9 0 0, encT t] st = some (.tup [encT (namedT m locs t).1, .bool (namedT m locs t).2], st) := by
  refine callD_pop (fn := F153) (r := .tup [encT (namedT m locs t).1, .bool (namedT m locs t).2]) (st1 := st) (st2 := st) rfl rfl (by simp) ?_ (by simp) (by simp) (by simp)
  rw [ev_eq 153 F153 rfl, F153]
  unfold namedT
  by_cases h7 : t.k = 7
  · rcases hL with ⟨fl, rfl⟩ | ⟨id, ver, mo, fr, full, more, rfl, ho, hid⟩
    · by_cases g : 0 ≤ t.n ∧ t.n < locs.length
      · have g1 : ¬ t.n < 0 := by omega
        have g2 : ¬ (locs.length : Int) ≤ t.n := by omega
        have w1 : IntKind.wrap .i64 ((locs.length : Int) - 1) = locs.length - 1 := by rw [wrap64] <;> omega
        have w2 : IntKind.wrap .i64 ((locs.length : Int) - 1 - t.n) = locs.length - 1 - t.n := by rw [wrap64] <;> omega
        have w3 : ¬ (locs.length : Int) - 1 - t.n < 0 := by omega
        have w4 : ((locs.length : Int) - 1 - t.n).toNat = locs.length - 1 - t.n.toNat := by omega
        have w5 : locs.length - 1 - t.n.toNat < locs.length := by omega
        simp [h0, tyO, h7, g1, g2, w1, w2, w3, w4, w5, localT_some g]
        rw [encT_eq]
      · by_cases g1 : t.n < 0
        · have e : localT locs t.n = none := by rw [localT, if_neg g]
          simp [h0, tyO, h7, g1, e, encT_K]
        · have g2 : (locs.length : Int) ≤ t.n := by omega
          have e : localT locs t.n = none := by rw [localT, if_neg g]
          simp [h0, tyO, h7, g1, g2, e, encT_K]
    · by_cases g : 0 ≤ t.n ∧ t.n < locs.length
      · have g1 : ¬ t.n < 0 := by omega
        have g2 : ¬ (locs.length : Int) ≤ t.n := by omega
        have w1 : IntKind.wrap .i64 ((locs.length : Int) - 1) = locs.length - 1 := by rw [wrap64] <;> omega
        have w2 : IntKind.wrap .i64 ((locs.length : Int) - 1 - t.n) = locs.length - 1 - t.n := by rw [wrap64] <;> omega
        have w3 : ¬ (locs.length : Int) - 1 - t.n < 0 := by omega
        have w4 : ((locs.length : Int) - 1 - t.n).toNat = locs.length - 1 - t.n.toNat := by omega
        have w5 : locs.length - 1 - t.n.toNat < locs.length := by omega
        have e5 : (locs ++ more)[locs.length - 1 - t.n.toNat]? = some locs[locs.length - 1 - t.n.toNat] := by rw [List.getElem?_append_left w5, List.getElem?_eq_getElem w5]
        simp [h0, tyO, ho, e5, h7, g1, g2, w1, w2, w3, w4, w5, localT_some g]
        rw [encT_eq]
      · by_cases g1 : t.n < 0
        · have e : localT locs t.n = none := by rw [localT, if_neg g]
          simp [h0, tyO, ho, h7, g1, e, encT_K]
        · have g2 : (locs.length : Int) ≤ t.n := by omega
          have e : localT locs t.n = none := by rw [localT, if_neg g]
          simp [h0, tyO, ho, h7, g1, g2, e, encT_K]
  by_cases h8 : t.k = 8
  · have d := c204 h0 hl t.n 31
    rw [encT_eq (declT m t.n 31).1] at d
    cases hd : (declT m t.n 31).2 with
    | false => rw [hd] at d; simp [h8, d, hd, encT_K]
    | true =>
      have hx : ∃ x, (declT m t.n 31).1.l = [x] := by
        unfold declT at hd ⊢
        split at hd
        · next g =>
          rw [dif_pos g]
          split at hd
          · next hk =>
            rw [if_pos hk]
            simp at hd ⊢
            exact List.length_eq_one_iff.1 hd.1
          · cases hd
        · cases hd
      obtain ⟨x, hx⟩ := hx
      have h19 := c205 x st
      rw [hd, hx] at d
      simp [h8, d, hd, hx, ← encT_eq x, h19]
      rw [encT_eq (litT x)]
  by_cases h9 : t.k = 9
  · have d := c204 h0 hl t.n 32
    rw [encT_eq (declT m t.n 32).1] at d
    cases hd : (declT m t.n 32).2 with
    | false => rw [hd] at d; simp [h9, d, hd, encT_K]
    | true =>
      have hx : ∃ x, (declT m t.n 32).1.l = [x] := by
        unfold declT at hd ⊢
        split at hd
        · next g =>
          rw [dif_pos g]
          split at hd
          · next hk =>
            rw [if_pos hk]
            simp at hd ⊢
            exact List.length_eq_one_iff.1 hd
          · cases hd
        · cases hd
      obtain ⟨x, hx⟩ := hx
      rw [hd, hx] at d
      simp [h9, d, hd, hx]
      rw [encT_eq x]
  by_cases h15 : t.k = 15
  · have d := c204 h0 hl t.n 30
    simp [h15, d, ← encT_eq]
  by_cases h16 : t.k = 16
  · have d := c204 h0 hl t.n 33
    simp [h16, d, ← encT_eq]
  by_cases h17 : t.k = 17
  · simp [h17, encT_K]
  simp [h7, h8, h9, h15, h16, h17, encT_K]

theorem byName_up (s : List UInt8) : ∀ (l : List Tm) (i : Nat), byName s i l = none ∨ ∃ j f, byName s i l = some (j, f) ∧ i ≤ j ∧ j < 64 ∧ ∃ p, l[j - i]? = some p ∧ p.s = s ∧ f = p.l.headD T0 := by
  intro l
  induction l with
  | nil => intro i; exact .inl rfl
  | cons p l ih =>
    intro i
    rw [byName]
    by_cases h : p.s = s ∧ i < 64
    · rw [if_pos h]
      exact .inr ⟨i, _, rfl, Nat.le_refl _, h.2, p, by simp, h.1, rfl⟩
    · rw [if_neg h]
      rcases ih (i + 1) with q | ⟨j, f, q1, q2, q3, p', q4, q5, q6⟩
      · exact .inl q
      · refine .inr ⟨j, f, q1, by omega, q3, p', ?_, q5, q6⟩
        rw [show j - i = (j - (i + 1)) + 1 by omega, List.getElem?_cons_succ]; exact q4

end Go.Nt.Ty

/-
  FIELDS, errors, arrays: the walks.
-/
set_option linter.unusedSimpArgs false
namespace Go.Nt.Ty
open Go Go.Nt

variable {m : Tm} {lv : D} {locs : List Tm} {at0 e0 : Int} {md oi : Nat}

theorem l209 (d of : Tm) (tc : List D) (ts : List UInt8) (htc : tc[2]? = some (.str ts)) (st : St) (hl : d.l.length ≤ 1000000) (hof : 0 ≤ of.n ∧ of.n ≤ 1000000) (hp : ∀ p, p ∈ d.l → ∃ x, p.l = [x] ∧ good x) :
    ∀ (r i : Nat) (s : List D) (bx : List (Nat × List D)), r = d.l.length - i → i ≤ d.l.length → get s 4 = .lp 4 1 0 → getB bx 4 = (1, tc) → get s 5 = .lp 5 1 0 → getB bx 5 = (1, clT of) → get s 7 = .lp 7 1 0 → getB bx 7 = (1, z6) →
    get s 52 = slE 6 d.fl (encTs d.l) → get s 53 = .i d.l.length → get s 54 = .int .i64 i →
    Stops (lp T L209_0 ⟨⟨s, bx⟩, st⟩) fun e s' b' st' => st' = st ∧ get s' 7 = .lp 7 1 0 ∧ (match byName ts i (d.l.drop i) with
      | some (j, f) => e = .ret ∧ get s' 6 = .int .i64 (of.n * 64 + j) ∧ getB b' 7 = (1, clT (bareT f)) ∧ get s' 8 = .bool true
      | none => e = .exit 0 ∧ getB b' 7 = (1, z6)) := by
  intro r
  induction r with
  | zero =>
    intro i s bx hr hi h4 b4 h5 b5 h7 b7 h52 h53 h54
    have e : i = d.l.length := by omega
    subst e
    rw [lp_kL, L209_0, List.drop_length]
    simp [h4, b4, h5, b5, h7, b7, h52, h53, h54, byName]
  | succ r ihr =>
    intro i s bx hr hi h4 b4 h5 b5 h7 b7 h52 h53 h54
    have hlt : i < d.l.length := by omega
    have hw : IntKind.wrap .i64 ((i : Int) + 1) = i + 1 := by rw [wrap64] <;> omega
    have q : byName ts i (d.l.drop i) = if d.l[i].s = ts ∧ i < 64 then some (i, d.l[i].l.headD T0) else byName ts (i + 1) (d.l.drop (i + 1)) := by rw [List.drop_eq_getElem_cons hlt, byName]
    rw [q]
    rw [lp_kL, L209_0]
    obtain ⟨x, hx, gx⟩ := hp _ (List.getElem_mem hlt)
    have h26 := c212 x gx st
    rw [encT_eq (bareT x)] at h26
    have w1 : IntKind.wrap .i64 (of.n * 64) = of.n * 64 := by rw [wrap64] <;> omega
    have w2 : IntKind.wrap .i64 (of.n * 64 + i) = of.n * 64 + i := by rw [wrap64] <;> omega
    by_cases hs : d.l[i].s = ts
    · by_cases h64 : i < 64
      · have h64' : (i : Int) < 64 := by omega
        simp [h4, b4, h5, b5, h7, b7, h52, h53, h54, hlt, hs, h64, h64', htc, hx, ← encT_eq x, h26, w1, w2]
      · have h64' : ¬ (i : Int) < 64 := by omega
        have nx := ihr (i + 1)
        rw [if_neg (fun g => h64 g.2)]
        simp [h4, b4, h5, b5, h7, b7, h52, h53, h54, hlt, hs, h64', htc, hw]
        rw [← L209_0]
        refine nx _ _ (by omega) (by omega) ?_ ?_ ?_ ?_ ?_ ?_ ?_ ?_ ?_
        iterate 9 simp [h4, b4, h5, b5, h7, b7, h52, h53]
    · have nx := ihr (i + 1)
      rw [if_neg (fun g => hs g.1)]
      simp [h4, b4, h5, b5, h7, b7, h52, h53, h54, hlt, hs, htc, hw]
      rw [← L209_0]
      refine nx _ _ (by omega) (by omega) ?_ ?_ ?_ ?_ ?_ ?_ ?_ ?_ ?_
      iterate 9 simp [h4, b4, h5, b5, h7, b7, h52, h53]

theorem declT_rec {m : Tm} {n : Int} (h : (declT m n 30).2 = true) : (0 ≤ n ∧ n < m.l.length) ∧ (declT m n 30).1 ∈ m.l ∧ ∀ p, p ∈ (declT m n 30).1.l → p.k = 34 ∧ ∃ x, p.l = [x] := by
  unfold declT at h ⊢
  split at h
  · next g =>
    rw [dif_pos g]
    refine ⟨g, ?_⟩
    split at h
    · next hk =>
      rw [if_pos hk]
      rw [if_neg (by omega), if_neg (by omega), if_neg (by omega)] at h ⊢
      split at h
      · cases h
      · next ha =>
        rw [if_neg ha]
        refine ⟨List.getElem_mem _, fun p hp => ?_⟩
        have hb : badPart p = false := by
          cases q : badPart p with
          | false => rfl
          | true => exact absurd (List.any_eq_true.2 ⟨p, hp, q⟩) ha
        simp [badPart] at hb
        exact ⟨hb.1, List.length_eq_one_iff.1 hb.2⟩
    · cases h
  · cases h

theorem typField_good {m : Tm} (hm : good m) (n : Int) : good (typField m n).1 := by
  have g0 : good T0 := good_K 0 (by simp [in64])
  unfold typField
  split
  · split
    · next p hp =>
      split
      · next hc =>
        have h1 := List.mem_of_getElem? hp
        obtain ⟨x, hx⟩ := List.length_eq_one_iff.1 hc.2.2
        have gp := good_mem (good_mem hm (List.getElem_mem _)) h1
        simp only [hx, List.headD_cons]
        exact good_mem gp (by rw [hx]; simp)
      · exact g0
    · exact g0
  · exact g0

theorem c209 {st : St} (h0 : St.at st oi = tyO m lv at0 e0 md) (hm : good m) (k n : Int) (s : List UInt8) (i v kk : Nat) (hn : in64 n) (of : Tm) :
    callD T (ev T) 209 [.hp oi 0 9 0 0, .agg [.int .i64 k, .int .i64 n, .str s, .rs i v 6 0 kk false, .int .i64 0, .int .i64 0], encT of] st = some (.tup [.int .i64 (fieldT m n s of).1, encT (fieldT m n s of).2.1, .bool (fieldT m n s of).2.2], st) := by
  refine callD_pop (fn := F209) (r := .tup [.int .i64 (fieldT m n s of).1, encT (fieldT m n s of).2.1, .bool (fieldT m n s of).2.2]) (st1 := st) (st2 := st) rfl rfl (by simp) ?_ (by simp) (by simp) (by simp)
  rw [ev_eq 209 F209 rfl, F209]
  have hl : ∀ d, d ∈ m.l → d.l.length ≤ 1000000 := fun d hd => good_len (good_mem hm hd)
  have d := c204 h0 hl of.n 30
  unfold fieldT
  cases hd : (declT m of.n 30).2 with
  | false =>
    rw [hd] at d
    simp [d, encT_K, ← encT_eq]
  | true =>
    rw [hd] at d
    have hq : IntKind.wrap .i64 (n.tdiv 64) = n.tdiv 64 := by
      have h1 := Int.mul_tdiv_add_tmod n 64
      have h2 := Int.tmod_lt_of_pos n (by omega : (0 : Int) < 64)
      have h3 : -64 < n.tmod 64 := by have := Int.lt_tmod_of_pos n (by omega : (0 : Int) < 64); omega
      unfold in64 at hn
      rw [wrap64] <;> omega
    by_cases hs : s = []
    · subst hs
      have h27 := c246 m n hn st
      have gf := typField_good hm n
      have h26 := c212 _ gf st
      rw [encT_eq (typField m n).1] at h26
      rw [encT_eq (typField m n).1] at h27
      cases ht : (typField m n).2 with
      | false =>
        rw [ht] at h27
        simp [d, ← encT_eq m, h0, tyO, h27, h26, ht, hq]
        rw [encT_eq (bareT _)]
      | true =>
        rw [ht] at h27
        simp [d, ← encT_eq m, h0, tyO, h27, h26, ht, hq]
        rw [encT_eq (bareT _)]
    · obtain ⟨g, hmem, hp⟩ := declT_rec hd
      rw [encT_eq (declT m of.n 30).1] at d
      have gd := good_mem hm hmem
      simp [d, h0, tyO, hs]
      refine (l209 (declT m of.n 30).1 of [.int .i64 k, .int .i64 n, .str s, .rs i v 6 0 kk false, .int .i64 0, .int .i64 0] s rfl st (good_len gd) ⟨by omega, by have := good_len hm; omega⟩ (fun p hpp => by
        obtain ⟨_, x, hx⟩ := hp p hpp
        exact ⟨x, hx, good_mem (good_mem gd hpp) (by rw [hx]; simp)⟩) _ 0 _ _ rfl (by omega) ?_ ?_ ?_ ?_ ?_ ?_ ?_ ?_ ?_).use (fun r => kfin _ (kseq _ (kblock 0 r)) = _) ?_
      iterate 9 simp
      rintro e s' b' st ⟨rfl, q7, h⟩
      cases hb : byName s 0 (declT m of.n 30).1.l with
      | none =>
        rw [List.drop_zero, hb] at h
        obtain ⟨rfl, p7⟩ := h
        simp [q7, p7, encT_K]
      | some jf =>
        obtain ⟨j, f⟩ := jf
        rw [List.drop_zero, hb] at h
        obtain ⟨rfl, q6, p7, q8⟩ := h
        simp [q7, p7, q6, q8, ← encT_eq]

theorem old1_pure {d : D} {n : Nat} (h : d.pure1 = true) : d.old1 n = true := by
  cases d <;> first | exact h | simp [D.pure1, D.pure0] at h
theorem old1_mono {d : D} {n k : Nat} (hk : n ≤ k) (h : d.old1 n = true) : d.old1 k = true := by
  cases d <;> first | exact h | (simp [D.old1] at h ⊢; omega)
theorem tyO_old (m : Tm) {lv : D} {n : Nat} (h : lv.old1 n = true) (a e : Int) (md : Nat) : (tyO m lv a e md).old n = true := by
  simp [tyO, Ob.old, D.old, h, old1_pure]

/-- What is wrong first. -/
theorem c152 {st : St} (h0 : St.at st oi = tyO m lv 0 0 md) (hl : oi < st.length) (hv : lv.old1 oi = true) (t : Tm) (e : Int) :
    callD T (ev T) 152 [.hp oi 0 9 0 0, encT t, .int .i64 e] st = some (.tup [encT T0, encT T0], List.set st oi (tyO m lv t.a e (md + 2))) := by
  have ha : ∀ o, St.at (List.set st oi o) oi = o := fun o => by rw [at_set _ _ _ _ hl, if_pos rfl]
  have hs : settled st (List.set st oi (tyO m lv t.a e (md + 2))) = true := settled_old (by simp) fun i hi => by
    rw [at_set _ _ _ _ hl]
    by_cases e : i = oi
    · rw [if_pos e]; exact .inr (.inr (tyO_old m (old1_mono (by omega) hv) _ _ _))
    · rw [if_neg e]; exact .inl rfl
  refine callD_cut (fn := F152) (r := .tup [encT T0, encT T0]) (st1 := List.set st oi (tyO m lv t.a e (md + 2))) (st2 := List.set st oi (tyO m lv t.a e (md + 2))) rfl rfl (by simp) ?_ (by simp) (by simp) hs (List.take_of_length_le (by simp))
  rw [ev_eq 152 F152 rfl, F152]
  simp [h0, tyO, kHs, ha, hl, splice, encT_K]

end Go.Nt.Ty

/-
  ARRAYS' TYPES: the walk.
-/
set_option linter.unusedSimpArgs false
namespace Go.Nt.Ty
open Go Go.Nt

variable {m : Tm} {lv : D} {locs : List Tm} {at0 e0 : Int} {md oi : Nat}

theorem encTs_pure (l : List Tm) : (encTs l).all D.pure = true := by
  induction l <;> simp_all

theorem l210b (tys : List Tm) (p0 : Tm) (hp0 : tys[0]? = some p0) (pid pv pm : Nat) (fr : Bool) (st : St) (hp : St.at st pid = .cells false 6 pv pm fr (encTs tys)) (hl : tys.length ≤ 1000000) (hg : ∀ t, t ∈ tys → t.ok) :
    ∀ (r i : Nat) (s : List D) (bx : List (Nat × List D)), r = tys.length - i → i ≤ tys.length → get s 1 = .rs pid pv 6 0 tys.length false → get s 9 = .rs pid pv 6 0 tys.length false → get s 10 = .i tys.length → get s 11 = .int .i64 i →
    get s 4 = .lp 4 1 0 → getB bx 4 = (1, z6) → get s 0 = .hp oi 0 9 0 0 →
    Stops (lp T L210_0 ⟨⟨s, bx⟩, st⟩) fun e s' b' st' => st' = st ∧ get s' 4 = .lp 4 1 0 ∧ getB b' 4 = (1, z6) ∧ get s' 0 = .hp oi 0 9 0 0 ∧ get s' 1 = .rs pid pv 6 0 tys.length false ∧
      (if (tys.drop i).all (fun t => sameT t p0) then e = .exit 0 else e = .ret ∧ get s' 5 = .int .i64 10) := by
  intro r
  induction r with
  | zero =>
    intro i s bx hr hi h1 h9 h10 h11 h4 b4 h0
    have e : i = tys.length := by omega
    subst e
    rw [lp_kL, L210_0, List.drop_length]
    simp [h1, h9, h10, h11, h4, b4, h0]
  | succ r ihr =>
    intro i s bx hr hi h1 h9 h10 h11 h4 b4 h0
    have hlt : i < tys.length := by omega
    have hpos : 0 < tys.length := by omega
    have hw : IntKind.wrap .i64 ((i : Int) + 1) = i + 1 := by rw [wrap64] <;> omega
    have q : (tys.drop i).all (fun t => sameT t p0) = (sameT tys[i] p0 && (tys.drop (i + 1)).all (fun t => sameT t p0)) := by rw [List.drop_eq_getElem_cons hlt, List.all_cons]
    have h28 := c235 tys[i] (hg _ (List.getElem_mem hlt)) p0 st
    have e0 : tys[0] = p0 := by rw [List.getElem?_eq_getElem hpos] at hp0; exact Option.some.inj hp0
    rw [q]
    rw [lp_kL, L210_0]
    cases hs : sameT tys[i] p0 with
    | true =>
      rw [hs] at h28
      have nx := ihr (i + 1)
      rw [Bool.true_and]
      simp [h1, h9, h10, h11, h4, b4, h0, hlt, hpos, hw, hp, e0, ← encT_eq, h28, -List.all_eq_true]
      rw [← L210_0]
      refine nx _ _ (by omega) (by omega) ?_ ?_ ?_ ?_ ?_ ?_ ?_
      iterate 7 simp [h1, h9, h10, h11, h4, b4, h0]
    | false =>
      rw [hs] at h28
      simp [h1, h9, h10, h11, h4, b4, h0, hlt, hpos, hw, hp, e0, ← encT_eq, h28]

theorem c210b {st : St} (h0 : St.at st oi = tyO m lv at0 e0 md) (hm : good m) (tys : List Tm) (p0 : Tm) (hp0 : tys[0]? = some p0) (pid pv pm : Nat) (fr : Bool) (hp : St.at st pid = .cells false 6 pv pm fr (encTs tys)) (hne : pid < st.length) (hpid : oi ≠ pid)
    (hl : tys.length ≤ 1000000) (hg : ∀ t, t ∈ tys → good t) :
    ∃ st', callD T (ev T) 210 [.hp oi 0 9 0 0, .rs pid pv 6 0 tys.length false] st = some (.tup [encT (listT m p0 tys).1, .int .i64 (listT m p0 tys).2], st') ∧ st'.length = st.length ∧ ∀ i, i ≠ pid → St.at st' i = St.at st i := by
  have hpos : 0 < tys.length := (List.getElem?_eq_some_iff.1 hp0).1
  have e0 : tys[0] = p0 := (List.getElem?_eq_some_iff.1 hp0).2
  have gp0 : good p0 := by rw [← e0]; exact hg _ (List.getElem_mem hpos)
  unfold listT
  cases ha : tys.all (fun t => sameT t p0) with
  | false =>
    refine ⟨st, ?_, rfl, fun _ _ => rfl⟩
    refine callD_cut (fn := F210) (r := .tup [encT T0, .int .i64 10]) (st1 := st) (st2 := st) rfl rfl (by simp) ?_ (by simp) (by simp) (settled_of (Nat.le_refl _) fun _ _ => .inl rfl) (List.take_of_length_le (Nat.le_refl _))
    rw [ev_eq 210 F210 rfl, F210]
    simp
    refine (l210b (oi := oi) tys p0 hp0 pid pv pm fr st hp hl (fun t ht => good_ok _ (hg t ht)) _ 0 _ _ rfl (by omega) ?_ ?_ ?_ ?_ ?_ ?_ ?_).use (fun r => kfin _ (kseq _ (kblock 0 r)) = _) ?_
    iterate 7 simp
    rintro e s' b' st ⟨rfl, q4, p4, q0, q1, h⟩
    rw [List.drop_zero, ha] at h
    simp at h
    obtain ⟨rfl, q5⟩ := h
    simp [q4, p4, q5, encT_K]
  | true =>
    have h29 := c46 m (.mk 3 tys.length [] .full [p0] 0 0) (good_ok _ hm) (good_len hm) ((Tm.ok_iff _).2 ⟨by simp [in64], by simp [in64]; omega, by simp, by simp [in64], by simp [in64], by simp, fun u hu => by simp at hu; subst hu; exact good_ok _ gp0⟩)
    obtain ⟨p1, tl, htys⟩ : ∃ p1 tl, tys = p1 :: tl := by cases tys with | nil => simp at hpos | cons a b => exact ⟨a, b, rfl⟩
    have hp1 : p1 = p0 := by subst htys; simpa using hp0
    have ea : encT (.mk 3 tys.length [] .full [p0] 0 0) = .agg [.int .i64 3, .int .i64 tys.length, .str [], .sl 6 true [encT p0], .int .i64 0, .int .i64 0] := by simp [encT, slE]
    let st' : St := if fr then st else List.set st pid (.cells false 6 pv (pm + 1) true (encTs tys))
    have hst' : st' = if fr then st else List.set st pid (.cells false 6 pv (pm + 1) true (encTs tys)) := rfl
    clear_value st'
    have hlen : st'.length = st.length := by rw [hst']; cases fr <;> simp
    have hat : ∀ i, i ≠ pid → St.at st' i = St.at st i := by
      intro i hi
      rw [hst']; cases fr with
      | true => rfl
      | false => simp only [Bool.false_eq_true, if_false]; rw [at_set _ _ _ _ hne, if_neg hi]
    have hatp : ∃ pm', St.at st' pid = .cells false 6 pv pm' true (encTs tys) := by
      rw [hst']; cases fr with
      | true => exact ⟨pm, hp⟩
      | false => exact ⟨pm + 1, by simp only [Bool.false_eq_true, if_false]; rw [at_set _ _ _ _ hne, if_pos rfl]⟩
    obtain ⟨pm', hatp⟩ := hatp
    have hfz : ∀ (full : Bool), fz0 st (.rs pid pv 6 0 1 full) = some (.sl 6 full [encT p0], st') := by
      intro full
      rw [hst', fz0_rs, hp]
      simp [htys, hp1]
    have hset : settled st st' = true := settled_of (by omega) fun i hi => by
      by_cases e : i = pid
      · subst e; right; rw [hatp]; exact encTs_pure tys
      · exact .inl (hat i e)
    have h29' : callD T (ev T) 46 [encT m, .agg [.int .i64 3, .int .i64 tys.length, .str [], .rs pid pv 6 0 1 true, .int .i64 0, .int .i64 0]] st = some (.int .i64 (cellsV m (.mk 3 tys.length [] .full [p0] 0 0)), st') := by
      refine callD_free (fn := F46) (args' := [encT m, encT (.mk 3 tys.length [] .full [p0] 0 0)]) rfl rfl ?_ (by simp) (h29 st')
      rw [ea]
      simp [hfz]
    have hfz' : fz0 st' (.rs pid pv 6 0 1 true) = some (.sl 6 true [encT p0], st') := by
      rw [fz0_rs, hatp]
      simp [htys, hp1]
    have hfin : st'.take st.length = st' := List.take_of_length_le (by omega)
    refine ⟨st', ?_, hlen, hat⟩
    have hsl : sliceD (.rs pid pv 6 0 tys.length false) none (some (.int .i64 1)) (some (.int .i64 1)) = some (.rs pid pv 6 0 1 true) := by
      have hle1 : (1 : Int) ≤ tys.length := by omega
      simp [sliceD, hle1]
    by_cases hz : cellsV m (.mk 3 tys.length [] .full [p0] 0 0) = 0
    · rw [hz] at h29'
      simp only [if_true, hz]
      refine callD_cut (fn := F210) (r := .tup [encT T0, .int .i64 11]) (st1 := st') (st2 := st') rfl rfl (by simp) ?_ (by simp) (by simp) hset hfin
      rw [ev_eq 210 F210 rfl, F210]
      simp
      refine (l210b (oi := oi) tys p0 hp0 pid pv pm fr st hp hl (fun t ht => good_ok _ (hg t ht)) _ 0 _ _ rfl (by omega) ?_ ?_ ?_ ?_ ?_ ?_ ?_).use (fun r => kfin _ (kseq _ (kblock 0 r)) = _) ?_
      iterate 7 simp
      rintro e s' b' st ⟨rfl, q4, p4, q0, q1, h⟩
      rw [List.drop_zero, ha] at h
      simp at h
      subst h
      simp [q4, p4, q0, q1, hsl, h0, tyO, ← encT_eq m, h29', encT_K]
    · simp only [if_true, if_neg hz]
      refine callD_cut (fn := F210) (r := .tup [.agg [.int .i64 3, .int .i64 tys.length, .str [], .rs pid pv 6 0 1 true, .int .i64 0, .int .i64 0], .int .i64 0]) (st1 := st') (st2 := st') rfl rfl (by simp) ?_ (by rw [ea]; simp [hfz']) (by simp) hset hfin
      rw [ev_eq 210 F210 rfl, F210]
      simp
      refine (l210b (oi := oi) tys p0 hp0 pid pv pm fr st hp hl (fun t ht => good_ok _ (hg t ht)) _ 0 _ _ rfl (by omega) ?_ ?_ ?_ ?_ ?_ ?_ ?_).use (fun r => kfin _ (kseq _ (kblock 0 r)) = _) ?_
      iterate 7 simp
      rintro e s' b' st ⟨rfl, q4, p4, q0, q1, h⟩
      rw [List.drop_zero, ha] at h
      simp at h
      subst h
      simp [q4, p4, q0, q1, hsl, h0, tyO, ← encT_eq m, h29', hz]

end Go.Nt.Ty

/-
  THE RULES: the walk.
-/
set_option linter.unusedSimpArgs false
namespace Go.Nt.Ty
open Go Go.Nt

variable {m : Tm} {lv : D} {locs : List Tm} {at0 e0 : Int} {md oi : Nat}

/-- The types' object, not written any more. -/
def frz (st : St) (pid pv pm : Nat) (fr : Bool) (es : List D) : St := if fr then st else List.set st pid (.cells false 6 pv (pm + 1) true es)
theorem frz_len (st : St) (pid pv pm : Nat) (fr : Bool) (es : List D) : (frz st pid pv pm fr es).length = st.length := by cases fr <;> simp [frz]
theorem frz_at (st : St) (pid pv pm : Nat) (fr : Bool) (es : List D) {i : Nat} (hi : i ≠ pid) : St.at (frz st pid pv pm fr es) i = St.at st i := by
  cases fr with
  | true => rfl
  | false =>
    simp only [frz, Bool.false_eq_true, if_false]
    by_cases h : pid < st.length
    · rw [at_set _ _ _ _ h, if_neg hi]
    · rw [List.set_eq_of_length_le (by omega)]

theorem c211p (ts ps : List Tm) (fl fl' : Fl) (hb : ps.length ≤ 9223372036854775807) (ht : ∀ t, t ∈ ts → good t) (hp : ∀ p, p ∈ ps → good p) (st : St) :
    callD T (ev T) 211 [slE 6 fl (encTs ts), slE 6 fl' (encTs ps)] st = some (.bool (allT ts ps), st) :=
  callD_pure (fn := F211) (st1 := []) (st2 := []) rfl rfl (by simp) (c211e ts ps fl fl' hb ht hp) (by simp) (by simp)

theorem c211r {st : St} (tys ps : List Tm) (fl' : Fl) (hb : ps.length ≤ 9223372036854775807) (ht : ∀ t, t ∈ tys → good t) (hpp : ∀ p, p ∈ ps → good p) (pid pv pm : Nat) (fr : Bool) (hp : St.at st pid = .cells false 6 pv pm fr (encTs tys)) :
    callD T (ev T) 211 [.rs pid pv 6 0 tys.length false, slE 6 fl' (encTs ps)] st = some (.bool (allT tys ps), frz st pid pv pm fr (encTs tys)) := by
  have e : slE 6 .part (encTs tys) = .sl 6 false (encTs tys) := by cases encTs tys <;> rfl
  have hfz : fz1 st (.rs pid pv 6 0 tys.length false) = some (.sl 6 false (encTs tys), frz st pid pv pm fr (encTs tys)) := by
    have : fz1 st (.rs pid pv 6 0 tys.length false) = fz0 st (.rs pid pv 6 0 tys.length false) := rfl
    rw [this, fz0_rs, hp]
    simp [frz, List.take_of_length_le]
  refine callD_free (fn := F211) (args' := [slE 6 .part (encTs tys), slE 6 fl' (encTs ps)]) rfl rfl ?_ (by simp) (c211p tys ps _ _ hb ht hpp _)
  rw [e]
  simp [pureArgs, hfz]

structure RH (m : Tm) (lv : D) (md oi : Nat) (st : St) (oid om : Nat) (k n : Int) (s : List UInt8) (L : D) (pid pv pm : Nat) (fr : Bool) (tys : List Tm) : Prop where
  h0 : St.at st oi = tyO m lv 0 0 md
  ho : St.at st oid = .cells true 6 0 om false [outD k n s L]
  hp : St.at st pid = .cells false 6 pv pm fr (encTs tys)
  ol : oid < st.length
  pl : pid < st.length
  op : oid ≠ pid
  o0 : oid ≠ oi
  p0 : pid ≠ oi
  gm : good m
  gt : ∀ t, t ∈ tys → good t
  tl : tys.length ≤ 1000000
  gn : in64 n

/-- How the rule leaves the heap. -/
def Left (st st' : St) (oid pid : Nat) (k n : Int) (s : List UInt8) (L : D) : Prop :=
  st'.length = st.length ∧ (∃ om', St.at st' oid = .cells true 6 0 om' false [outD k n s L]) ∧ ∀ i, i ≠ oid → i ≠ pid → St.at st' i = St.at st i

theorem Left.self {st : St} {oid om pid : Nat} {k n : Int} {s : List UInt8} {L : D} (h : St.at st oid = .cells true 6 0 om false [outD k n s L]) : Left st st oid pid k n s L := ⟨rfl, ⟨om, h⟩, fun _ _ _ => rfl⟩

theorem ev17_bin {st : St} {oid om : Nat} {n : Int} {s : List UInt8} {L : D} {pid pv pm : Nat} {fr : Bool} {a b : Tm} (H : RH m lv md oi st oid om 10 n s L pid pv pm fr [a, b]) (d : Tm) :
    ev T 155 [.hp oi 0 9 0 0, .hp oid 0 6 0 0, encT d, .rs pid pv 6 0 2 false] st = some (.tup [encT (ruleT m 10 n s d [a, b]).1, .int .i64 (ruleT m 10 n s d [a, b]).2.1], st) := by
  have h21 := c207 n a b st
  rw [encT_eq (binT n a b)] at h21
  rw [ev_eq 155 F155 rfl, F155]
  have hr : ruleT m 10 n s d [a, b] = (binT n a b, if (binT n a b).k = 0 then 10 else 0, n) := by simp [ruleT]
  rw [hr]
  by_cases hz : (binT n a b).k = 0
  · simp [H.ho, H.hp, outD, ← encT_eq a, ← encT_eq b, h21, hz]
    rw [encT_eq (binT n a b), hz]
  · simp [H.ho, H.hp, outD, ← encT_eq a, ← encT_eq b, h21, hz]
    rw [encT_eq (binT n a b)]

theorem ev17_un {st : St} {oid om : Nat} {n : Int} {s : List UInt8} {L : D} {pid pv pm : Nat} {fr : Bool} {a : Tm} (H : RH m lv md oi st oid om 11 n s L pid pv pm fr [a]) (d : Tm) :
    ev T 155 [.hp oi 0 9 0 0, .hp oid 0 6 0 0, encT d, .rs pid pv 6 0 1 false] st = some (.tup [encT (ruleT m 11 n s d [a]).1, .int .i64 (ruleT m 11 n s d [a]).2.1], st) := by
  have i1 := c208 a 1 st
  have i2 := c208 a 2 st
  have hr : ruleT m 11 n s d [a] = if (n = 1 ∧ isT a 1 = true) ∨ (n = 2 ∧ isT a 2 = true) then (a, 0, n) else (T0, 10, n) := by simp [ruleT]
  rw [hr]
  rw [ev_eq 155 F155 rfl, F155]
  by_cases n1 : n = 1
  · cases h1 : isT a 1 with
    | true =>
      rw [h1] at i1
      simp [H.ho, H.hp, outD, ← encT_eq a, i1, n1]
    | false =>
      rw [h1] at i1
      simp [H.ho, H.hp, outD, ← encT_eq a, i1, n1, encT_K]
  · by_cases n2 : n = 2
    · cases h1 : isT a 2 with
      | true =>
        rw [h1] at i2
        simp [H.ho, H.hp, outD, ← encT_eq a, i2, n2]
      | false =>
        rw [h1] at i2
        simp [H.ho, H.hp, outD, ← encT_eq a, i2, n2, encT_K]
    · simp [H.ho, H.hp, outD, n1, n2, encT_K]

theorem ev17_idx {st : St} {oid om : Nat} {n : Int} {s : List UInt8} {L : D} {pid pv pm : Nat} {fr : Bool} {a b : Tm} (H : RH m lv md oi st oid om 12 n s L pid pv pm fr [a, b]) (d : Tm) :
    ev T 155 [.hp oi 0 9 0 0, .hp oid 0 6 0 0, encT d, .rs pid pv 6 0 2 false] st = some (.tup [encT (ruleT m 12 n s d [a, b]).1, .int .i64 (ruleT m 12 n s d [a, b]).2.1], st) := by
  have i1 := c208 b 1 st
  have hr : ruleT m 12 n s d [a, b] = if (a.k = 3 ∧ a.l.length = 1) ∧ isT b 1 = true then (a.l.headD T0, 0, n) else (T0, 10, n) := by simp [ruleT]
  rw [hr]
  rw [ev_eq 155 F155 rfl, F155]
  by_cases k3 : a.k = 3
  · match hx : a.l with
    | [] => simp [H.ho, H.hp, outD, k3, hx, encT_K]
    | x :: y :: l => simp [H.ho, H.hp, outD, k3, hx, encT_K]
    | [x] =>
      cases hb : isT b 1 with
      | true =>
        rw [hb] at i1
        simp [H.ho, H.hp, outD, k3, hx, ← encT_eq b, i1]
        rw [encT_eq x]
      | false =>
        rw [hb] at i1
        simp [H.ho, H.hp, outD, k3, hx, ← encT_eq b, i1, encT_K]
  · simp [H.ho, H.hp, outD, k3, encT_K]

theorem ev17_list {st : St} {oid om : Nat} {n : Int} {s : List UInt8} {L : D} {pid pv pm : Nat} {fr : Bool} {tys : List Tm} (H : RH m lv md oi st oid om 14 n s L pid pv pm fr tys) (hne : 0 < tys.length) (d : Tm) :
    ∃ st', ev T 155 [.hp oi 0 9 0 0, .hp oid 0 6 0 0, encT d, .rs pid pv 6 0 tys.length false] st = some (.tup [encT (ruleT m 14 n s d tys).1, .int .i64 (ruleT m 14 n s d tys).2.1], st') ∧ Left st st' oid pid 14 n s L := by
  obtain ⟨p0, tl, ht⟩ : ∃ p0 tl, tys = p0 :: tl := by cases tys with | nil => simp at hne | cons a b => exact ⟨a, b, rfl⟩
  have hr : ruleT m 14 n s d tys = ((listT m p0 tys).1, (listT m p0 tys).2, n) := by simp [ruleT, ht]
  obtain ⟨st', h24, hl, hat⟩ := c210b H.h0 H.gm tys p0 (by rw [ht]; rfl) pid pv pm fr H.hp H.pl (fun e => H.p0 e.symm) H.tl H.gt
  refine ⟨st', ?_, hl, ⟨om, by rw [hat _ H.op]; exact H.ho⟩, fun i _ hi => hat i hi⟩
  rw [hr, ev_eq 155 F155 rfl, F155]
  rw [encT_eq (listT m p0 tys).1] at h24
  simp [H.ho, outD, h24]
  rw [encT_eq (listT m p0 tys).1]

theorem ev17_make {st : St} {oid om : Nat} {n : Int} {s : List UInt8} {L : D} {pid pv pm : Nat} {fr : Bool} {tys : List Tm} (H : RH m lv md oi st oid om 15 n s L pid pv pm fr tys) (d : Tm) (gd : good d) :
    ∃ st', ev T 155 [.hp oi 0 9 0 0, .hp oid 0 6 0 0, encT d, .rs pid pv 6 0 tys.length false] st = some (.tup [encT (ruleT m 15 n s d tys).1, .int .i64 (ruleT m 15 n s d tys).2.1], st') ∧ Left st st' oid pid 15 n s L := by
  have hr : ruleT m 15 n s d tys = if allT tys d.l then (.mk 4 n [] .nil [] 0 0, 0, n) else (T0, 10, n) := by simp [ruleT]
  have h25 := c211r tys d.l d.fl (by have := good_len gd; omega) H.gt (fun p hp => good_mem gd hp) pid pv pm fr H.hp
  have hso : St.at (frz st pid pv pm fr (encTs tys)) oid = .cells true 6 0 om false [outD 15 n s L] := by rw [frz_at _ _ _ _ _ _ H.op]; exact H.ho
  refine ⟨frz st pid pv pm fr (encTs tys), ?_, frz_len _ _ _ _ _ _, ⟨om, hso⟩, fun i _ hi => frz_at _ _ _ _ _ _ hi⟩
  rw [hr, ev_eq 155 F155 rfl, F155]
  cases ha : allT tys d.l with
  | true =>
    rw [ha] at h25
    simp [H.ho, hso, outD, h25]
    simp [encT, slE]
  | false =>
    rw [ha] at h25
    simp [H.ho, hso, outD, h25, encT_K]

theorem ev17_call {st : St} {oid om : Nat} {n : Int} {s : List UInt8} {L : D} {pid pv pm : Nat} {fr : Bool} {tys : List Tm} (H : RH m lv md oi st oid om 16 n s L pid pv pm fr tys) (d : Tm) (gd : good d) (hd : d.l.length = 3) :
    ∃ st', ev T 155 [.hp oi 0 9 0 0, .hp oid 0 6 0 0, encT d, .rs pid pv 6 0 tys.length false] st = some (.tup [encT (ruleT m 16 n s d tys).1, .int .i64 (ruleT m 16 n s d tys).2.1], st') ∧ Left st st' oid pid 16 n s L := by
  obtain ⟨x, y, z, hx⟩ : ∃ x y z, d.l = [x, y, z] := by
    match hq : d.l, hd with
    | [x, y, z], _ => exact ⟨x, y, z, rfl⟩
  have gx := good_mem gd (by rw [hx]; simp : x ∈ d.l)
  have gy := good_mem gd (by rw [hx]; simp : y ∈ d.l)
  have hr : ruleT m 16 n s d tys = if allT tys x.l then (bareT y, 0, n) else (T0, 10, n) := by simp [ruleT, hx]
  have h25 := c211r tys x.l x.fl (by have := good_len gx; omega) H.gt (fun p hp => good_mem gx hp) pid pv pm fr H.hp
  have hso : St.at (frz st pid pv pm fr (encTs tys)) oid = .cells true 6 0 om false [outD 16 n s L] := by rw [frz_at _ _ _ _ _ _ H.op]; exact H.ho
  have h26 := c212 y gy (frz st pid pv pm fr (encTs tys))
  rw [encT_eq (bareT y)] at h26
  refine ⟨frz st pid pv pm fr (encTs tys), ?_, frz_len _ _ _ _ _ _, ⟨om, hso⟩, fun i _ hi => frz_at _ _ _ _ _ _ hi⟩
  rw [hr, ev_eq 155 F155 rfl, F155]
  cases ha : allT tys x.l with
  | true =>
    rw [ha] at h25
    simp [H.ho, hso, outD, h25, hx, ← encT_eq y, h26]
    rw [encT_eq (bareT y)]
  | false =>
    rw [ha] at h25
    simp [H.ho, hso, outD, h25, hx, encT_K]

theorem ev17_field {st : St} {oid om : Nat} {n : Int} {s : List UInt8} {lid lw lk : Nat} {pid pv pm : Nat} {fr : Bool} {a : Tm} (H : RH m lv md oi st oid om 13 n s (.rs lid lw 6 0 lk false) pid pv pm fr [a]) (d : Tm) :
    ∃ st', ev T 155 [.hp oi 0 9 0 0, .hp oid 0 6 0 0, encT d, .rs pid pv 6 0 1 false] st = some (.tup [encT (ruleT m 13 n s d [a]).1, .int .i64 (ruleT m 13 n s d [a]).2.1], st') ∧ Left st st' oid pid 13 (ruleT m 13 n s d [a]).2.2 s (.rs lid lw 6 0 lk false) := by
  have hr : ruleT m 13 n s d [a] = if a.k = 4 ∧ a.l = [] then (if (fieldT m n s a).2.2 then ((fieldT m n s a).2.1, 0, (fieldT m n s a).1) else (T0, 8, n)) else (T0, 10, n) := by simp [ruleT]
  rw [hr]
  by_cases k4 : a.k = 4
  · cases hx : a.l with
    | nil =>
      have e4 : (a.k = 4) = True := eq_true k4
      have e0 : (a.l = []) = True := eq_true hx
      have h23 := c209 H.h0 H.gm 13 n s lid lw lk H.gn a
      rw [encT_eq (fieldT m n s a).2.1] at h23
      cases hf : (fieldT m n s a).2.2 with
      | true =>
        rw [hf] at h23
        refine ⟨List.set st oid (.cells true 6 0 (om + 1) false [outD 13 (fieldT m n s a).1 s (.rs lid lw 6 0 lk false)]), ?_, by simp, ⟨om + 1, by simp [at_set _ _ _ _ H.ol, k4]⟩, fun i h1 _ => by rw [at_set _ _ _ _ H.ol, if_neg h1]⟩
        rw [ev_eq 155 F155 rfl, F155]
        simp [H.ho, H.hp, outD, ← encT_eq a, h23, e4, e0, kHs, splice]
        rw [encT_eq (fieldT m n s a).2.1]
      | false =>
        rw [hf] at h23
        refine ⟨st, ?_, Left.self (by simpa [k4] using H.ho)⟩
        rw [ev_eq 155 F155 rfl, F155]
        simp [H.ho, H.hp, outD, ← encT_eq a, h23, e4, e0, encT_K]
    | cons x l =>
      refine ⟨st, ?_, Left.self (by simpa using H.ho)⟩
      rw [ev_eq 155 F155 rfl, F155]
      simp [H.ho, H.hp, outD, k4, hx, encT_K]
  · refine ⟨st, ?_, Left.self (by simpa [k4] using H.ho)⟩
    rw [ev_eq 155 F155 rfl, F155]
    simp [H.ho, H.hp, outD, k4, encT_K]

theorem ruleT_n {m : Tm} {k n : Int} {s : List UInt8} {d : Tm} {p : List Tm} (h : k ≠ 13) : (ruleT m k n s d p).2.2 = n := by
  unfold ruleT
  rw [if_neg h]
  repeat' split
  all_goals rfl

theorem len2 {l : List Tm} (h : l.length = 2) : ∃ a b, l = [a, b] := by
  match l, h with
  | [a, b], _ => exact ⟨a, b, rfl⟩

/-- The rule, of an expression that has parts. -/
theorem ev17 {st : St} {oid om : Nat} {t : Tm} {lid lw : Nat} {pid pv pm : Nat} {fr : Bool} {tys : List Tm} (H : RH m lv md oi st oid om t.k t.n t.s (.rs lid lw 6 0 tys.length false) pid pv pm fr tys) (hne : 0 < tys.length) (d : Tm) (gd : good d)
    (hs : shapedT t = true) (hl : t.l.length = tys.length) (h17 : t.k ≠ 17) (hd : t.k = 16 → d.l.length = 3) :
    ∃ st', ev T 155 [.hp oi 0 9 0 0, .hp oid 0 6 0 0, encT d, .rs pid pv 6 0 tys.length false] st = some (.tup [encT (ruleT m t.k t.n t.s d tys).1, .int .i64 (ruleT m t.k t.n t.s d tys).2.1], st') ∧
      Left st st' oid pid t.k (ruleT m t.k t.n t.s d tys).2.2 t.s (.rs lid lw 6 0 tys.length false) := by
  by_cases h13 : t.k = 13
  · have h1 : tys.length = 1 := by rw [← hl]; simpa [shapedT, h13] using hs
    obtain ⟨a, rfl⟩ := List.length_eq_one_iff.1 h1
    rw [h13] at H ⊢
    exact ev17_field H d
  rw [ruleT_n h13]
  by_cases h10 : t.k = 10
  · have h1 : tys.length = 2 := by rw [← hl]; simp [shapedT, h10] at hs; exact hs.1
    obtain ⟨a, b, rfl⟩ := len2 h1
    rw [h10] at H ⊢
    exact ⟨st, ev17_bin H d, Left.self H.ho⟩
  by_cases h11 : t.k = 11
  · have h1 : tys.length = 1 := by rw [← hl]; simp [shapedT, h11] at hs; exact hs.1
    obtain ⟨a, rfl⟩ := List.length_eq_one_iff.1 h1
    rw [h11] at H ⊢
    exact ⟨st, ev17_un H d, Left.self H.ho⟩
  by_cases h12 : t.k = 12
  · have h1 : tys.length = 2 := by rw [← hl]; simpa [shapedT, h12] using hs
    obtain ⟨a, b, rfl⟩ := len2 h1
    rw [h12] at H ⊢
    exact ⟨st, ev17_idx H d, Left.self H.ho⟩
  by_cases h14 : t.k = 14
  · rw [h14] at H ⊢
    exact ev17_list H hne d
  by_cases h15 : t.k = 15
  · rw [h15] at H ⊢
    exact ev17_make H d gd
  by_cases h16 : t.k = 16
  · have := hd h16
    rw [h16] at H ⊢
    exact ev17_call H d gd this
  exfalso
  unfold shapedT at hs
  rw [← hl] at hne
  by_cases q : t.k = 5 ∨ t.k = 7 ∨ t.k = 8 ∨ t.k = 9 ∨ t.k = 18
  · rw [if_pos q] at hs; simp only [decide_eq_true_eq] at hs; omega
  rw [if_neg q] at hs
  by_cases q6 : t.k = 6
  · rw [if_pos q6] at hs; simp only [Bool.and_eq_true, decide_eq_true_eq] at hs; omega
  rw [if_neg q6, if_neg h11, if_neg h10, if_neg h13, if_neg h12, if_neg (by omega)] at hs
  simp [h16, h17] at hs

theorem ev17_leaf {st : St} {oid om : Nat} {k n : Int} {s : List UInt8} (ho : St.at st oid = .cells true 6 0 om false [outD k n s .nils]) (d : Tm) (gd : good d)
    (hk : k = 5 ∨ k = 18 ∨ k = 6 ∨ k = 7 ∨ k = 8 ∨ k = 9) :
    ev T 155 [.hp oi 0 9 0 0, .hp oid 0 6 0 0, encT d, .nils] st = some (.tup [encT (leafT k d), .int .i64 0], st) := by
  have h20 := c206 k n s d gd st
  rw [encT_eq (leafT k d)] at h20
  rw [ev_eq 155 F155 rfl, F155]
  rcases hk with rfl | rfl | rfl | rfl | rfl | rfl
  all_goals
    simp [ho, outD, ← encT_eq d, h20]
    rw [encT_eq (leafT _ d)]

theorem ev17_call0 {st : St} {oid om : Nat} {n : Int} {s : List UInt8} (ho : St.at st oid = .cells true 6 0 om false [outD 16 n s .nils]) (d : Tm) (gd : good d) (hd : d.l.length = 3) :
    ev T 155 [.hp oi 0 9 0 0, .hp oid 0 6 0 0, encT d, .nils] st = some (.tup [encT (ruleT m 16 n s d []).1, .int .i64 (ruleT m 16 n s d []).2.1], st) := by
  obtain ⟨x, y, z, hx⟩ : ∃ x y z, d.l = [x, y, z] := by
    match hq : d.l, hd with
    | [x, y, z], _ => exact ⟨x, y, z, rfl⟩
  have gx := good_mem gd (by rw [hx]; simp : x ∈ d.l)
  have gy := good_mem gd (by rw [hx]; simp : y ∈ d.l)
  have hr : ruleT m 16 n s d [] = if allT [] x.l then (bareT y, 0, n) else (T0, 10, n) := by simp [ruleT, hx]
  have h25 := c211p [] x.l .nil x.fl (by have := good_len gx; omega) (fun t ht => by cases ht) (fun p hp => good_mem gx hp) st
  have en : slE 6 .nil (encTs []) = .nils := rfl
  rw [en] at h25
  have h26 := c212 y gy st
  rw [encT_eq (bareT y)] at h26
  rw [hr, ev_eq 155 F155 rfl, F155]
  cases ha : allT [] x.l with
  | true =>
    rw [ha] at h25
    simp [ho, outD, h25, hx, ← encT_eq y, h26]
    rw [encT_eq (bareT y)]
  | false =>
    rw [ha] at h25
    simp [ho, outD, h25, hx, encT_K]

end Go.Nt.Ty

/-
  AN EXPRESSION's TYPE: the walk.
-/
set_option linter.unusedSimpArgs false
namespace Go.Nt.Ty
open Go Go.Nt

variable {m : Tm} {lv : D} {locs : List Tm} {at0 e0 : Int} {md oi : Nat}

/-- The heap of 'of', when so many parts were gone through. -/
def ofH (oi : Nat) (st : St) (k n : Int) (s : List UInt8) (ts ss : List D) : St :=
  match ts with
  | [] => st ++ [.cells true 1 0 0 false [.hp oi 0 9 0 0], .cells true 6 0 1 false [outD k n s .nils], .cells true 1 0 0 false [.nils]]
  | _ :: r => st ++ [.cells true 1 0 0 false [.hp oi 0 9 0 0], .cells true 6 0 (r.length + 2) false [outD k n s (.rs (st.length + 4) r.length 6 0 (r.length + 1) false)], .cells true 1 0 (r.length + 1) false [.rs (st.length + 3) r.length 6 0 (r.length + 1) false],
      .cells false 6 r.length (2 * r.length + 1) false ts, .cells false 6 r.length (2 * r.length + 1) false ss]

theorem LocR.mono {st st' : St} {lv : D} {locs : List Tm} (h : LocR st lv locs) (hl : st.length ≤ st'.length) (ha : ∀ id, id < st.length → lv.old1 id = false → St.at st' id = St.at st id) : LocR st' lv locs := by
  rcases h with h | ⟨id, ver, mo, fr, full, more, rfl, ho, hid⟩
  · exact .inl h
  · exact .inr ⟨id, ver, mo, fr, full, more, rfl, by rw [ha id hid (by simp [D.old1])]; exact ho, by omega⟩
theorem LocR.old {st : St} {lv : D} {locs : List Tm} (h : LocR st lv locs) : lv.old1 st.length = true := by
  rcases h with ⟨fl, rfl⟩ | ⟨id, ver, mo, fr, full, more, rfl, ho, hid⟩
  · exact old1_pure (by simp)
  · simpa [D.old1] using hid
theorem LocR.app {st : St} {lv : D} {locs : List Tm} (h : LocR st lv locs) (l : St) : LocR (st ++ l) lv locs := h.mono (by simp) fun id hid _ => at_lt _ _ hid
theorem LocR.ofH {st : St} {lv : D} {locs : List Tm} (h : LocR st lv locs) (k n : Int) (s : List UInt8) (ts ss : List D) : LocR (ofH oi st k n s ts ss) lv locs := by
  cases ts <;> exact h.app _

theorem ofH_0 (st : St) (k n : Int) (s : List UInt8) (ts ss : List D) (h : oi < st.length) : St.at (ofH oi st k n s ts ss) oi = St.at st oi := by
  cases ts <;> exact at_lt _ _ h

theorem c154 {st st1 : St} (hl : oi < st.length) (hl1 : st1.length = st.length) (h1 : St.at st1 oi = tyO m lv at0 e0 md) (k n : Int) (s : List UInt8) (tys ss : List Tm) (hlen : ss.length = tys.length) (hb : tys.length ≤ 1000000) (p a sp : Tm)
    (hof : callD T (ev T) 93 [.hp oi 0 9 0 0, encT p] (ofH oi st k n s (encTs tys) (encTs ss)) = some (.tup [encT a, encT sp], ofH oi st1 k n s (encTs tys) (encTs ss))) :
    callD T (ev T) 154 [encT p, .hp st.length 0 1 0 0, .hp (st.length + 2) 0 1 0 0, .hp (st.length + 1) 0 6 0 0] (ofH oi st k n s (encTs tys) (encTs ss)) =
      some (.bool (decide (e0 = 0)), ofH oi st1 k n s (encTs (tys ++ [a])) (encTs (ss ++ [sp]))) := by
  have hl' : oi < st1.length := by omega
  have a0 : ∀ l, St.at (st1 ++ l) oi = tyO m lv at0 e0 md := fun l => by rw [at_lt _ _ hl', h1]
  have a1 : ∀ l k, St.at (st1 ++ l) (st.length + k) = St.at l k := fun l k => by rw [← hl1]; exact at_app st1 l k
  have a2 : ∀ l, St.at (st1 ++ l) st.length = St.at l 0 := fun l => by rw [← hl1]; exact at_app0 st1 l
  have s1 : ∀ l k o, List.set (st1 ++ l) (st.length + k) o = st1 ++ List.set l k o := fun l k o => by rw [← hl1]; exact set_app st1 l k o
  simp only [callD, show T 154 = some F154 from rfl, show F154.mode = .raw from rfl]
  rw [if_pos (by simp)]
  rw [ev_eq 154 F154 rfl, F154]
  cases tys with
  | nil =>
    obtain rfl : ss = [] := by simpa using hlen
    simp only [encTs_nil, List.nil_append, encTs_cons] at hof ⊢
    have e1 : ofH oi st k n s [] [] = st ++ [.cells true 1 0 0 false [.hp oi 0 9 0 0], .cells true 6 0 1 false [outD k n s .nils], .cells true 1 0 0 false [.nils]] := rfl
    have e2 : ofH oi st1 k n s [] [] = st1 ++ [.cells true 1 0 0 false [.hp oi 0 9 0 0], .cells true 6 0 1 false [outD k n s .nils], .cells true 1 0 0 false [.nils]] := rfl
    rw [e1, e2] at hof
    rw [e1]
    simp only [outD] at hof
    simp [at_app, at_app0, ← encT_eq, hof, a0, a1, a2, s1, hl1, outD, appendD, most, srcD, listD, splice, tyO, ofH]
  | cons t tys =>
    obtain ⟨u, us, rfl⟩ : ∃ u us, ss = u :: us := by cases ss with | nil => simp at hlen | cons u us => exact ⟨u, us, rfl⟩
    have hlen' : us.length = tys.length := by simpa using hlen
    have hb' : tys.length + 1 ≤ 1000000 := hb
    simp only [List.cons_append, encTs_cons] at hof ⊢
    simp only [ofH, outD, encTs_len, hl1] at hof ⊢
    have hm : ¬ 134217728 < tys.length + 1 := by omega
    have hm2 : tys.length + 1 ≤ 134217728 := by omega
    have e2 : (encT t :: (encTs tys ++ [encT T0])).set (tys.length + 1) (encT a) = encT t :: encTs (tys ++ [a]) := by
      rw [List.set_cons_succ, List.set_append_right _ _ (by simp)]; simp [encTs_append]
    have e3 : (encT u :: (encTs us ++ [encT T0])).set (tys.length + 1) (encT sp) = encT u :: encTs (us ++ [sp]) := by
      rw [List.set_cons_succ, List.set_append_right _ _ (by simp [hlen'])]; simp [encTs_append, hlen']
    have e4 : (encT t :: (encTs tys ++ [encT T0]))[tys.length + 1]? = some (encT T0) := by
      rw [List.getElem?_cons_succ, List.getElem?_append_right (by simp)]; simp
    have e5 : (encT u :: (encTs us ++ [encT T0]))[tys.length + 1]? = some (encT T0) := by
      rw [List.getElem?_cons_succ, List.getElem?_append_right (by simp [hlen'])]; simp [hlen']
    have hng : ¬ ((tys.length : Int) + 1 < 0) := by omega
    have htb : tys.length + 1 < tagB := by unfold tagB; omega
    have hmul : 2 * (tys.length + 1) = 2 * tys.length + 2 := by omega
    simp [at_app, at_app0, ← encT_eq, ← encT_0, hof, a0, a1, a2, s1, hl1, outD, appendD, most, srcD, listD, splice, tyO, hm, hm2, htb, hlen', List.take_of_length_le, e2, e3, e4, e5, hng, hmul]
    simp [encTs_append]

theorem ofT_err {m : Tm} {locs : List Tm} (t : Tm) : ∀ a e, ofT m locs t = .error (a, e) → e ≠ 0 := by
  induction t using Tm.ind with
  | h t ih =>
    intro a e h
    have key : ∀ l : List Tm, (∀ u, u ∈ l → ∀ a e, ofT m locs u = .error (a, e) → e ≠ 0) → ∀ a e, ofTs m locs l = .error (a, e) → e ≠ 0 := by
      intro l
      induction l with
      | nil => intro _ a e h; simp [ofTs] at h
      | cons u l ihl =>
        intro hu a e h
        rw [ofTs] at h
        cases hq : ofT m locs u with
        | error x =>
          obtain ⟨x1, x2⟩ := x
          rw [hq] at h
          simp only [Except.error.injEq, Prod.mk.injEq] at h
          rw [← h.2]
          exact hu u (by simp) _ _ hq
        | ok x =>
          obtain ⟨x1, x2⟩ := x
          rw [hq] at h
          cases hr : ofTs m locs l with
          | error y =>
            obtain ⟨y1, y2⟩ := y
            rw [hr] at h
            simp only [Except.error.injEq, Prod.mk.injEq] at h
            rw [← h.2]
            exact ihl (fun v hv => hu v (by simp [hv])) _ _ hr
          | ok y => rw [hr] at h; cases h
    rw [ofT_eq] at h
    split at h
    · simp only [Except.error.injEq, Prod.mk.injEq] at h; omega
    · split at h
      · simp only [Except.error.injEq, Prod.mk.injEq] at h; omega
      · cases hq : ofTs m locs t.l with
        | error x =>
          obtain ⟨x1, x2⟩ := x
          rw [hq] at h
          simp only [Except.error.injEq, Prod.mk.injEq] at h
          rw [← h.2]
          exact key t.l ih _ _ hq
        | ok x =>
          obtain ⟨x1, x2⟩ := x
          rw [hq] at h
          simp only at h
          split at h
          · cases h
          · next hne =>
            simp only [Except.error.injEq, Prod.mk.injEq] at h
            rw [← h.2]; exact hne

theorem ofTs_len {m : Tm} {locs : List Tm} : ∀ (l ts ss : List Tm), ofTs m locs l = .ok (ts, ss) → ts.length = l.length ∧ ss.length = l.length
  | [], ts, ss, h => by
    simp only [ofTs, Except.ok.injEq, Prod.mk.injEq] at h
    rw [← h.1, ← h.2]; exact ⟨rfl, rfl⟩
  | t :: l, ts, ss, h => by
    rw [ofTs] at h
    cases hq : ofT m locs t with
    | error x => rw [hq] at h; cases h
    | ok x =>
      obtain ⟨a, s⟩ := x
      rw [hq] at h
      cases hr : ofTs m locs l with
      | error y => rw [hr] at h; cases h
      | ok y =>
        obtain ⟨b, c⟩ := y
        rw [hr] at h
        simp only [Except.ok.injEq, Prod.mk.injEq] at h
        obtain ⟨k1, k2⟩ := ofTs_len l b c hr
        rw [← h.1, ← h.2]
        simp [k1, k2]

/-- What an expression's walk comes to. -/
def ofR (m : Tm) (lv : D) (md oi : Nat) (st : St) : Except (Int × Int) (Tm × Tm) → D × St
  | .ok (a, s) => (.tup [encT a, encT s], st)
  | .error (a, e) => (.tup [encT T0, encT T0], List.set st oi (tyO m lv a e (md + 2)))

theorem ofH_set {st : St} (h : oi < st.length) (o : Ob) (k n : Int) (s : List UInt8) (ts ss : List D) : List.set (ofH oi st k n s ts ss) oi o = ofH oi (List.set st oi o) k n s ts ss := by
  cases ts with
  | nil => simp only [ofH]; exact set_lt _ _ h o
  | cons a r => simp only [ofH, List.length_set]; exact set_lt _ _ h o

theorem ofH_len (st : St) (k n : Int) (s : List UInt8) (ts ss : List D) : st.length ≤ (ofH oi st k n s ts ss).length := by cases ts <;> simp [ofH]

theorem l93 (t d : Tm) (st : St) (hl : oi < st.length) (h0 : St.at st oi = tyO m lv 0 0 md) (ht : t.l.length ≤ 1000000)
    (hL : LocR st lv locs) (hc : ∀ u, u ∈ t.l → ∀ st, oi < st.length → St.at st oi = tyO m lv 0 0 md → LocR st lv locs → callD T (ev T) 93 [.hp oi 0 9 0 0, encT u] st = some (ofR m lv md oi st (ofT m locs u))) :
    ∀ (r i : Nat) (tys ss : List Tm) (s : List D) (bx : List (Nat × List D)), r = t.l.length - i → i ≤ t.l.length → tys.length = i → ss.length = i →
    get s 2 = .hp st.length 0 1 0 0 → get s 3 = .lp 3 1 0 → getB bx 3 = (1, clT t) → get s 4 = .lp 4 1 0 → getB bx 4 = (1, z6) → get s 5 = .lp 5 1 0 → getB bx 5 = (1, z6) → get s 6 = .lp 6 1 0 → getB bx 6 = (1, clT d) →
    get s 8 = .hp (st.length + 1) 0 6 0 0 → get s 9 = .hp (st.length + 2) 0 1 0 0 → get s 10 = .fn 154 [] [.hp st.length 0 1 0 0, .hp (st.length + 2) 0 1 0 0, .hp (st.length + 1) 0 6 0 0] →
    get s 45 = slE 6 t.fl (encTs t.l) → get s 46 = .i t.l.length → get s 47 = .int .i64 i →
    Stops (lp T L93_0 ⟨⟨s, bx⟩, ofH oi st t.k t.n t.s (encTs tys) (encTs ss)⟩) fun e s' b' st' => get s' 4 = .lp 4 1 0 ∧ getB b' 4 = (1, z6) ∧ get s' 5 = .lp 5 1 0 ∧ getB b' 5 = (1, z6) ∧
      (match ofTs m locs (t.l.drop i) with
       | .ok (ts', ss') => e = .exit 0 ∧ st' = ofH oi st t.k t.n t.s (encTs (tys ++ ts')) (encTs (ss ++ ss')) ∧ get s' 2 = .hp st.length 0 1 0 0 ∧ get s' 3 = .lp 3 1 0 ∧ getB b' 3 = (1, clT t) ∧ get s' 6 = .lp 6 1 0 ∧ getB b' 6 = (1, clT d) ∧ get s' 8 = .hp (st.length + 1) 0 6 0 0 ∧ get s' 9 = .hp (st.length + 2) 0 1 0 0
       | .error (a, e') => e = .ret ∧ ∃ tys' ss', st' = ofH oi (List.set st oi (tyO m lv a e' (md + 2))) t.k t.n t.s (encTs tys') (encTs ss')) := by
  intro r
  induction r with
  | zero =>
    intro i tys ss s bx hr hi hty hss h2 h3 b3 h4 b4 h5 b5 h6 b6 h8 h9 h10 h45 h46 h47
    have e : i = t.l.length := by omega
    subst e
    rw [lp_kL, L93_0, List.drop_length, ofTs]
    simp [h2, h3, b3, h4, b4, h5, b5, h6, b6, h8, h9, h45, h46, h47]
  | succ r ihr =>
    intro i tys ss s bx hr hi hty hss h2 h3 b3 h4 b4 h5 b5 h6 b6 h8 h9 h10 h45 h46 h47
    have hlt : i < t.l.length := by omega
    have hw : IntKind.wrap .i64 ((i : Int) + 1) = i + 1 := by rw [wrap64] <;> omega
    have q : ofTs m locs (t.l.drop i) = (match ofT m locs t.l[i] with
      | .error e => .error e
      | .ok (a, s) => match ofTs m locs (t.l.drop (i + 1)) with
        | .error e => .error e
        | .ok (ts, ss) => .ok (a :: ts, s :: ss)) := by rw [List.drop_eq_getElem_cons hlt, ofTs] <;> rfl
    have c0 := hc _ (List.getElem_mem hlt) (ofH oi st t.k t.n t.s (encTs tys) (encTs ss)) (by have := ofH_len (oi := oi) st t.k t.n t.s (encTs tys) (encTs ss); omega) (by rw [ofH_0 _ _ _ _ _ _ hl]; exact h0) (hL.ofH _ _ _ _ _)
    rw [q]
    rw [lp_kL, L93_0]
    cases ho : ofT m locs t.l[i] with
    | ok x =>
      obtain ⟨a, sp⟩ := x
      rw [ho] at c0
      have h16 := c154 (m := m) (lv := lv) hl rfl h0 t.k t.n t.s tys ss (by omega) (by omega) t.l[i] a sp c0
      have nx := ihr (i + 1) (tys ++ [a]) (ss ++ [sp])
      simp [h2, h3, b3, h4, b4, h5, b5, h6, b6, h8, h9, h10, h45, h46, h47, hlt, hw, ← encT_eq, h16]
      rw [← L93_0]
      refine Stops.mono (nx _ _ (by omega) (by omega) (by simp; omega) (by simp; omega) ?_ ?_ ?_ ?_ ?_ ?_ ?_ ?_ ?_ ?_ ?_ ?_ ?_ ?_ ?_) ?_
      iterate 15 simp [h2, h3, b3, h4, b4, h5, b5, h6, b6, h8, h9, h10, h45, h46]
      rintro e s' b' st' ⟨q4, p4, q5, p5, h⟩
      refine ⟨q4, p4, q5, p5, ?_⟩
      cases hr : ofTs m locs (t.l.drop (i + 1)) with
      | error y => rw [hr] at h; exact h
      | ok y => rw [hr] at h; simpa using h
    | error x =>
      obtain ⟨a, e'⟩ := x
      rw [ho] at c0
      have he := ofT_err _ _ _ ho
      simp only [ofR, ofH_set hl] at c0
      have h16 := c154 (m := m) (lv := lv) (at0 := a) (e0 := e') (md := md + 2) hl (by simp) (by rw [at_set _ _ _ _ hl, if_pos rfl]) t.k t.n t.s tys ss (by omega) (by omega) t.l[i] T0 T0 c0
      simp [h2, h3, b3, h4, b4, h5, b5, h6, b6, h8, h9, h10, h45, h46, h47, hlt, hw, ← encT_eq, h16, he]
      exact ⟨_, _, rfl⟩

end Go.Nt.Ty
