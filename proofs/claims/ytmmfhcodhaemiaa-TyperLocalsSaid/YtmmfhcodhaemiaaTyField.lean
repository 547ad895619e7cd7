/-
  FIELDS, errors, arrays: the walks.
-/
import Derived.Test.YtmmfhcodhaemiaaTyHeap
import Derived.Test.YtmmfhcodhaemiaaNtCut
set_option linter.unusedSimpArgs false
namespace Go.Nt.Ty
open Go Go.Nt

variable {m : Tm} {fl : Fl} {locs : List Tm} {at0 e0 : Int} {md : Nat}

theorem l23 (d of : Tm) (tc : List D) (ts : List UInt8) (htc : tc[2]? = some (.str ts)) (st : St) (hl : d.l.length ≤ 1000000) (hof : 0 ≤ of.n ∧ of.n ≤ 1000000) (hp : ∀ p, p ∈ d.l → ∃ x, p.l = [x] ∧ good x) :
    ∀ (r i : Nat) (s : List D) (bx : List (Nat × List D)), r = d.l.length - i → i ≤ d.l.length → get s 4 = .lp 4 1 0 → getB bx 4 = (1, tc) → get s 5 = .lp 5 1 0 → getB bx 5 = (1, clT of) → get s 7 = .lp 7 1 0 → getB bx 7 = (1, z6) →
    get s 52 = slE 6 d.fl (encTs d.l) → get s 53 = .i d.l.length → get s 54 = .int .i64 i →
    Stops (lp T L23_0 ⟨⟨s, bx⟩, st⟩) fun e s' b' st' => st' = st ∧ get s' 7 = .lp 7 1 0 ∧ (match byName ts i (d.l.drop i) with
      | some (j, f) => e = .ret ∧ get s' 6 = .int .i64 (of.n * 64 + j) ∧ getB b' 7 = (1, clT (bareT f)) ∧ get s' 8 = .bool true
      | none => e = .exit 0 ∧ getB b' 7 = (1, z6)) := by
  intro r
  induction r with
  | zero =>
    intro i s bx hr hi h4 b4 h5 b5 h7 b7 h52 h53 h54
    have e : i = d.l.length := by omega
    subst e
    rw [lp_kL, L23_0, List.drop_length]
    simp [h4, b4, h5, b5, h7, b7, h52, h53, h54, byName]
  | succ r ihr =>
    intro i s bx hr hi h4 b4 h5 b5 h7 b7 h52 h53 h54
    have hlt : i < d.l.length := by omega
    have hw : IntKind.wrap .i64 ((i : Int) + 1) = i + 1 := by rw [wrap64] <;> omega
    have q : byName ts i (d.l.drop i) = if d.l[i].s = ts ∧ i < 64 then some (i, d.l[i].l.headD T0) else byName ts (i + 1) (d.l.drop (i + 1)) := by rw [List.drop_eq_getElem_cons hlt, byName]
    rw [q]
    rw [lp_kL, L23_0]
    obtain ⟨x, hx, gx⟩ := hp _ (List.getElem_mem hlt)
    have h26 := c26 x gx st
    rw [encT_eq (bareT x)] at h26
    have w1 : IntKind.wrap .i64 (of.n * 64) = of.n * 64 := by rw [wrap64] <;> omega
    have w2 : IntKind.wrap .i64 (of.n * 64 + i) = of.n * 64 + i := by rw [wrap64] <;> omega
    by_cases hs : d.l[i].s = ts
    · by_cases h64 : i < 64
      · have h64' : (i : Int) < 64 := by omega
        simp [h4, b4, h5, b5, h7, b7, h52, h53, h54, hlt, hs, h64, h64', htc, hx, ← encT_eq x, h26, w1, w2]
      · have h64' : ¬ (i : Int) < 64 := by omega
        have nx := ihr (i + 1)
        rw [if_neg (fun g => h64 g.2)]
        simp [h4, b4, h5, b5, h7, b7, h52, h53, h54, hlt, hs, h64', htc, hw]
        rw [← L23_0]
        refine nx _ _ (by omega) (by omega) ?_ ?_ ?_ ?_ ?_ ?_ ?_ ?_ ?_
        iterate 9 simp [h4, b4, h5, b5, h7, b7, h52, h53]
    · have nx := ihr (i + 1)
      rw [if_neg (fun g => hs g.1)]
      simp [h4, b4, h5, b5, h7, b7, h52, h53, h54, hlt, hs, htc, hw]
      rw [← L23_0]
      refine nx _ _ (by omega) (by omega) ?_ ?_ ?_ ?_ ?_ ?_ ?_ ?_ ?_
      iterate 9 simp [h4, b4, h5, b5, h7, b7, h52, h53]

theorem declT_rec {m : Tm} {n : Int} (h : (declT m n 30).2 = true) : (0 ≤ n ∧ n < m.l.length) ∧ (declT m n 30).1 ∈ m.l ∧ ∀ p, p ∈ (declT m n 30).1.l → p.k = 34 ∧ ∃ x, p.l = [x] := by
  unfold declT at h ⊢
  split at h
  · next g =>
    rw [dif_pos g]
    refine ⟨g, ?_⟩
    split at h
    · next hk =>
      rw [if_pos hk]
      rw [if_neg (by omega), if_neg (by omega), if_neg (by omega)] at h ⊢
      split at h
      · cases h
      · next ha =>
        rw [if_neg ha]
        refine ⟨List.getElem_mem _, fun p hp => ?_⟩
        have hb : badPart p = false := by
          cases q : badPart p with
          | false => rfl
          | true => exact absurd (List.any_eq_true.2 ⟨p, hp, q⟩) ha
        simp [badPart] at hb
        exact ⟨hb.1, List.length_eq_one_iff.1 hb.2⟩
    · cases h
  · cases h

theorem typField_good {m : Tm} (hm : good m) (n : Int) : good (typField m n).1 := by
  have g0 : good T0 := good_K 0 (by simp [in64])
  unfold typField
  split
  · split
    · next p hp =>
      split
      · next hc =>
        have h1 := List.mem_of_getElem? hp
        obtain ⟨x, hx⟩ := List.length_eq_one_iff.1 hc.2.2
        have gp := good_mem (good_mem hm (List.getElem_mem _)) h1
        simp only [hx, List.headD_cons]
        exact good_mem gp (by rw [hx]; simp)
      · exact g0
    · exact g0
  · exact g0

theorem c23 {st : St} (h0 : St.at st 0 = tyO m fl locs at0 e0 md) (hm : good m) (k n : Int) (s : List UInt8) (i v kk : Nat) (hn : in64 n) (of : Tm) :
    callD T (ev T) 23 [.hp 0 0 9 0 0, .agg [.int .i64 k, .int .i64 n, .str s, .rs i v 6 0 kk false, .int .i64 0, .int .i64 0], encT of] st = some (.tup [.int .i64 (fieldT m n s of).1, encT (fieldT m n s of).2.1, .bool (fieldT m n s of).2.2], st) := by
  refine callD_pop (fn := F23) (r := .tup [.int .i64 (fieldT m n s of).1, encT (fieldT m n s of).2.1, .bool (fieldT m n s of).2.2]) (st1 := st) (st2 := st) rfl rfl (by simp) ?_ (by simp) (by simp) (by simp)
  rw [ev_eq 23 F23 rfl, F23]
  have hl : ∀ d, d ∈ m.l → d.l.length ≤ 1000000 := fun d hd => good_len (good_mem hm hd)
  have d := c18 h0 hl of.n 30
  unfold fieldT
  cases hd : (declT m of.n 30).2 with
  | false =>
    rw [hd] at d
    simp [d, encT_K, ← encT_eq]
  | true =>
    rw [hd] at d
    have hq : IntKind.wrap .i64 (n.tdiv 64) = n.tdiv 64 := by
      have h1 := Int.mul_tdiv_add_tmod n 64
      have h2 := Int.tmod_lt_of_pos n (by omega : (0 : Int) < 64)
      have h3 : -64 < n.tmod 64 := by have := Int.lt_tmod_of_pos n (by omega : (0 : Int) < 64); omega
      unfold in64 at hn
      rw [wrap64] <;> omega
    by_cases hs : s = []
    · subst hs
      have h27 := c27 m n hn st
      have gf := typField_good hm n
      have h26 := c26 _ gf st
      rw [encT_eq (typField m n).1] at h26
      rw [encT_eq (typField m n).1] at h27
      cases ht : (typField m n).2 with
      | false =>
        rw [ht] at h27
        simp [d, ← encT_eq m, h0, tyO, h27, h26, ht, hq]
        rw [encT_eq (bareT _)]
      | true =>
        rw [ht] at h27
        simp [d, ← encT_eq m, h0, tyO, h27, h26, ht, hq]
        rw [encT_eq (bareT _)]
    · obtain ⟨g, hmem, hp⟩ := declT_rec hd
      rw [encT_eq (declT m of.n 30).1] at d
      have gd := good_mem hm hmem
      simp [d, h0, tyO, hs]
      refine (l23 (declT m of.n 30).1 of [.int .i64 k, .int .i64 n, .str s, .rs i v 6 0 kk false, .int .i64 0, .int .i64 0] s rfl st (good_len gd) ⟨by omega, by have := good_len hm; omega⟩ (fun p hpp => by
        obtain ⟨_, x, hx⟩ := hp p hpp
        exact ⟨x, hx, good_mem (good_mem gd hpp) (by rw [hx]; simp)⟩) _ 0 _ _ rfl (by omega) ?_ ?_ ?_ ?_ ?_ ?_ ?_ ?_ ?_).use (fun r => kfin _ (kseq _ (kblock 0 r)) = _) ?_
      iterate 9 simp
      rintro e s' b' st ⟨rfl, q7, h⟩
      cases hb : byName s 0 (declT m of.n 30).1.l with
      | none =>
        rw [List.drop_zero, hb] at h
        obtain ⟨rfl, p7⟩ := h
        simp [q7, p7, encT_K]
      | some jf =>
        obtain ⟨j, f⟩ := jf
        rw [List.drop_zero, hb] at h
        obtain ⟨rfl, q6, p7, q8⟩ := h
        simp [q7, p7, q6, q8, ← encT_eq]

/-- What is wrong first. -/
theorem c14 {st : St} (h0 : St.at st 0 = tyO m fl locs 0 0 md) (hl : 0 < st.length) (t : Tm) (e : Int) :
    callD T (ev T) 14 [.hp 0 0 9 0 0, encT t, .int .i64 e] st = some (.tup [encT T0, encT T0], List.set st 0 (tyO m fl locs t.a e (md + 2))) := by
  have ha : ∀ o, St.at (List.set st 0 o) 0 = o := fun o => by rw [at_set _ _ _ _ hl, if_pos rfl]
  have hs : settled st (List.set st 0 (tyO m fl locs t.a e (md + 2))) = true := settled_set (by simp [tyO, Ob.pureO])
  refine callD_cut (fn := F14) (r := .tup [encT T0, encT T0]) (st1 := List.set st 0 (tyO m fl locs t.a e (md + 2))) (st2 := List.set st 0 (tyO m fl locs t.a e (md + 2))) rfl rfl (by simp) ?_ (by simp) (by simp) hs (List.take_of_length_le (by simp))
  rw [ev_eq 14 F14 rfl, F14]
  simp [h0, tyO, kHs, ha, splice, encT_K]

end Go.Nt.Ty
