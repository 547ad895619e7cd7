/-
  THE LAWS OF LAYER 15, plain and walked.
-/
import Derived.Test.YtmmfhcodhaemiaaTyTop
set_option linter.unusedSimpArgs false
namespace Go.Nt.Ty
open Go Go.Nt

variable {m : Tm} {locs : List Tm}

theorem field_again {n : Int} {s : List UInt8} {a : Tm} (h : (fieldT m n s a).2.2 = true) : fieldT m (fieldT m n s a).1 [] a = fieldT m n s a := by
  unfold fieldT at h ⊢
  split at h
  · next hd =>
    rw [if_pos hd]
    split at h
    · next hs =>
      rw [if_pos hs]
      simp [hd]
    · next hs =>
      rw [if_neg hs]
      obtain ⟨g, _, hp⟩ := declT_rec hd
      split at h
      · next i f hb =>
        simp only [hb]
        simp only [hd, if_true]
        rcases byName_up s (declT m a.n 30).1.l 0 with q | ⟨j, f', q1, _, q3, p, q4, q5, q6⟩
        · rw [q] at hb; cases hb
        · rw [q1] at hb
          simp only [Option.some.injEq, Prod.mk.injEq] at hb
          obtain ⟨rfl, rfl⟩ := hb
          have e1 : (a.n * 64 + (j : Int)).tdiv 64 = a.n := by
            rw [Int.tdiv_eq_ediv_of_nonneg (by omega)]; omega
          have e2 : (a.n * 64 + (j : Int)).tmod 64 = j := by
            rw [Int.tmod_eq_emod_of_nonneg (by omega)]; omega
          have hdec : (declT m a.n 30).1 = m.l[a.n.toNat]'(by omega) ∧ (m.l[a.n.toNat]'(by omega)).k = 30 := by
            unfold declT at hd ⊢
            rw [dif_pos g] at hd ⊢
            split at hd
            · next hk =>
              rw [if_pos hk, if_neg (by omega), if_neg (by omega), if_neg (by omega)] at *
              split at hd
              · cases hd
              · next ha => rw [if_neg ha]; exact ⟨rfl, hk⟩
            · cases hd
          rw [hdec.1] at q4 hp
          rw [Nat.sub_zero] at q4
          obtain ⟨pk, x, px⟩ := hp p (List.mem_of_getElem? q4)
          have et : typField m (a.n * 64 + (j : Int)) = (x, true) := by
            unfold typField
            rw [dif_pos (by rw [e1]; omega)]
            simp only [e1, e2, Int.toNat_natCast, q4]
            rw [if_pos ⟨hdec.2, pk, by rw [px]; rfl⟩, px]; rfl
          rw [et, q6, px]
          simp [e1]
      · cases h
  · cases h

theorem rule_again {k n : Int} {s : List UInt8} {d : Tm} {p : List Tm} (h : (ruleT m k n s d p).2.1 = 0) : ruleT m k (ruleT m k n s d p).2.2 [] d p = ruleT m k n s d p := by
  by_cases h13 : k = 13
  · subst h13
    unfold ruleT at h ⊢
    simp only [show ¬ ((13 : Int) = 5 ∨ (13 : Int) = 18 ∨ (13 : Int) = 6 ∨ (13 : Int) = 7 ∨ (13 : Int) = 8 ∨ (13 : Int) = 9) by decide, show ¬ (13 : Int) = 10 by decide, show ¬ (13 : Int) = 11 by decide, show ¬ (13 : Int) = 12 by decide, if_false, if_true] at h ⊢
    match p with
    | [] => rfl
    | a :: b :: l => rfl
    | [a] =>
      simp only at h ⊢
      split at h
      · next hc =>
        rw [if_pos hc]
        split at h
        · next hf =>
          rw [if_pos hf, if_pos hc]
          rw [field_again hf, if_pos hf]
        · cases h
      · cases h
  · rw [ruleT_n h13]
    unfold ruleT
    rw [if_neg (c := k = 13) h13, if_neg (c := k = 13) h13]

theorem shaped_again {t : Tm} (n : Int) (ss : List Tm) (hl : ss.length = t.l.length) (hn : t.k ≠ 13 → n = t.n) : shapedT (.mk t.k n [] .nil ss 0 0) = shapedT t := by
  by_cases h13 : t.k = 13
  · simp [shapedT, h13, hl]
  · rw [hn h13]; unfold shapedT; simp only [k_mk, n_mk, l_mk, hl]; rfl

theorem named_again {t : Tm} (n : Int) (ss : List Tm) (hn : t.k ≠ 13 → n = t.n) : namedT m locs (.mk t.k n [] .nil ss 0 0) = namedT m locs t := by
  by_cases h13 : t.k = 13
  · simp [namedT, h13]
  · rw [hn h13]; unfold namedT; simp only [k_mk, n_mk]; rfl

/-- What settles is settled. -/
theorem settle (t : Tm) : ∀ a s, ofT m locs t = .ok (a, s) → ofT m locs s = .ok (a, s) := by
  induction t using Tm.ind with
  | h t ih =>
    intro a s ho
    have key : ∀ l : List Tm, (∀ u, u ∈ l → ∀ a s, ofT m locs u = .ok (a, s) → ofT m locs s = .ok (a, s)) → ∀ ts ss, ofTs m locs l = .ok (ts, ss) → ofTs m locs ss = .ok (ts, ss) := by
      intro l
      induction l with
      | nil =>
        intro _ ts ss h
        simp only [ofTs, Except.ok.injEq, Prod.mk.injEq] at h
        rw [← h.1, ← h.2]; rfl
      | cons u l ihl =>
        intro hu ts ss h
        rw [ofTs] at h
        cases hq : ofT m locs u with
        | error x => rw [hq] at h; cases h
        | ok x =>
          obtain ⟨a, s⟩ := x
          rw [hq] at h
          cases hr : ofTs m locs l with
          | error y => rw [hr] at h; cases h
          | ok y =>
            obtain ⟨b, c⟩ := y
            rw [hr] at h
            simp only [Except.ok.injEq, Prod.mk.injEq] at h
            rw [← h.1, ← h.2, ofTs, hu u (by simp) a s hq]
            simp only
            rw [ihl (fun v hv => hu v (by simp [hv])) b c hr]
    rw [ofT_eq] at ho
    split at ho
    · cases ho
    · next hs =>
      split at ho
      · cases ho
      · next hn =>
        cases hq : ofTs m locs t.l with
        | error x => rw [hq] at ho; cases ho
        | ok x =>
          obtain ⟨ts, ss⟩ := x
          rw [hq] at ho
          simp only at ho
          split at ho
          · next he =>
            simp only [Except.ok.injEq, Prod.mk.injEq] at ho
            have hlen := (ofTs_len t.l ts ss hq).2
            have hss := key t.l ih ts ss hq
            rw [← ho.1, ← ho.2]
            have hnn : t.k ≠ 13 → (ruleT m t.k t.n t.s (namedT m locs t).1 ts).2.2 = t.n := fun h => ruleT_n h
            rw [ofT, shaped_again _ _ hlen hnn, named_again _ _ hnn, if_neg hs, if_neg hn, hss]
            simp only
            rw [rule_again he, if_pos he]
          · cases ho

theorem local_more {ahead : Tm} {n : Int} {d : Tm} (h : localT locs n = some d) : localT (ahead :: locs) n = some d := by
  unfold localT at h ⊢
  split at h
  · next g =>
    rw [if_pos ⟨g.1, by simp only [List.length_cons]; omega⟩]
    simp only [List.length_cons]
    rw [show locs.length + 1 - 1 - n.toNat = (locs.length - 1 - n.toNat) + 1 by omega, List.getElem?_cons_succ]
    exact h
  · cases h

theorem named_more {ahead t : Tm} (h : (namedT m locs t).2 = true) : namedT m (ahead :: locs) t = namedT m locs t := by
  unfold namedT at h ⊢
  split
  · next h7 =>
    rw [if_pos h7] at h
    split at h
    · next d hd => rw [local_more hd]
    · cases h
  · rfl

/-- Locals ahead of all do not matter. -/
theorem more (ahead t : Tm) : ∀ a s, ofT m locs t = .ok (a, s) → ofT m (ahead :: locs) t = .ok (a, s) := by
  induction t using Tm.ind with
  | h t ih =>
    intro a s ho
    have key : ∀ l : List Tm, (∀ u, u ∈ l → ∀ a s, ofT m locs u = .ok (a, s) → ofT m (ahead :: locs) u = .ok (a, s)) → ∀ ts ss, ofTs m locs l = .ok (ts, ss) → ofTs m (ahead :: locs) l = .ok (ts, ss) := by
      intro l
      induction l with
      | nil => intro _ ts ss h; simpa [ofTs] using h
      | cons u l ihl =>
        intro hu ts ss h
        rw [ofTs] at h ⊢
        cases hq : ofT m locs u with
        | error x => rw [hq] at h; cases h
        | ok x =>
          obtain ⟨a, s⟩ := x
          rw [hq] at h
          rw [hu u (by simp) a s hq]
          cases hr : ofTs m locs l with
          | error y => rw [hr] at h; cases h
          | ok y =>
            obtain ⟨b, c⟩ := y
            rw [hr] at h
            simp only
            rw [ihl (fun v hv => hu v (by simp [hv])) b c hr]
            exact h
    rw [ofT_eq] at ho ⊢
    split at ho
    · cases ho
    · next hs =>
      rw [if_neg hs]
      split at ho
      · cases ho
      · next hn =>
        have hn' : (namedT m locs t).2 = true := by simpa using hn
        rw [named_more hn', if_neg hn]
        cases hq : ofTs m locs t.l with
        | error x => rw [hq] at ho; cases ho
        | ok x =>
          obtain ⟨ts, ss⟩ := x
          rw [hq] at ho
          rw [key t.l ih ts ss hq]
          exact ho

theorem c7 (st : St) : callD T (ev T) 7 [] st = some (.bool true, st) := by
  have h : tells (tK 36) [tK 2] (tK 7) = .tup [encT (tK 2), encT (tK 7), .int .i64 0, .int .i64 0] := by
    have : ofT (tK 36) [tK 2] (tK 7) = .ok (tK 2, tK 7) := by
      rw [ofT_eq]; simp [shapedT, namedT, localT, ofTs, ruleT, leafT, bareT_eq, bfl]
    rw [tells, this]
  have h8 := c8 (m := tK 36) (locs := [tK 2]) (good_K _ (by simp [in64])) (fun t ht => by simp at ht; subst ht; exact good_K _ (by simp [in64])) (by simp) (tK 7) (good_K _ (by simp [in64])) .full []
  rw [h] at h8
  simp only [encTs_cons, encTs_nil, encT_K] at h8
  have e : slE 6 .full [.agg [.int .i64 2, .int .i64 0, .str [], .nils, .int .i64 0, .int .i64 0]] = .sl 6 true [.agg [.int .i64 2, .int .i64 0, .str [], .nils, .int .i64 0, .int .i64 0]] := rfl
  rw [e] at h8
  refine callD_pure (fn := F7) (r := .bool true) (st1 := []) (st2 := []) rfl rfl (by simp) ?_ (by simp) (by simp)
  rw [ev_eq 7 F7 rfl, F7]
  simp [h8]

theorem l6 (locs : List Tm) (fl : Fl) (hl : locs.length ≤ 9223372036854775807) (hg : ∀ t, t ∈ locs → t.ok) :
    ∀ (r i : Nat) (s : List D) (bx : List (Nat × List D)), r = 40 - i → i ≤ 40 → i ≤ locs.length → get s 0 = slE 6 fl (encTs locs) → get s 3 = .int .i64 i → (∀ t, t ∈ locs.take i → cntT t ≤ 400) →
    Stops (lp T L6_0 ⟨⟨s, bx⟩, []⟩) fun e s' _ st' => st' = [] ∧ get s' 0 = slE 6 fl (encTs locs) ∧ ((e = .ret ∧ get s' 2 = .bool true) ∨ (e = .exit 0 ∧ ∀ t, t ∈ locs.take 40 → cntT t ≤ 400)) := by
  intro r
  induction r with
  | zero =>
    intro i s bx hr hi hi2 h0 h3 hc
    have e : i = 40 := by omega
    subst e
    rw [lp_kL, L6_0]
    by_cases hlt : 40 < locs.length
    · have hlt' : (40 : Int) < locs.length := by omega
      simp [h0, h3, hlt']; exact hc
    · have hlt' : ¬ (40 : Int) < locs.length := by omega
      simp [h0, h3, hlt']; exact hc
  | succ r ihr =>
    intro i s bx hr hi hi2 h0 h3 hc
    have h40 : i < 40 := by omega
    have h40' : (i : Int) < 40 := by omega
    have hw : IntKind.wrap .i64 ((i : Int) + 1) = i + 1 := by rw [wrap64] <;> omega
    rw [lp_kL, L6_0]
    by_cases hlt : i < locs.length
    · obtain ⟨b, hb, hcnt⟩ := c5 locs[i] (hg _ (List.getElem_mem hlt)) []
      cases b with
      | true => simp [h0, h3, hlt, h40', ← encT_eq, hb]
      | false =>
        simp [h0, h3, hlt, h40', ← encT_eq, hb, hw]
        rw [← L6_0]
        refine ihr (i + 1) _ _ (by omega) (by omega) (by omega) ?_ ?_ ?_
        · simp [h0]
        · simp
        · intro t ht
          rw [List.take_succ_eq_append_getElem hlt, List.mem_append] at ht
          rcases ht with ht | ht
          · exact hc t ht
          · simp at ht; subst ht; exact hcnt rfl
    · have e : i = locs.length := by omega
      subst e
      simp [h0, h3]
      intro t ht
      exact hc t (by rw [List.take_of_length_le (Nat.le_refl _)]; exact List.mem_of_mem_take ht)

theorem c6 (locs : List Tm) (fl : Fl) (hl : locs.length ≤ 9223372036854775807) (hg : ∀ t, t ∈ locs → t.ok) (st : St) : ∃ b, callD T (ev T) 6 [slE 6 fl (encTs locs)] st = some (.bool b, st) ∧ (b = false → locs.length ≤ 40 ∧ ∀ t, t ∈ locs → cntT t ≤ 400) := by
  have go : ∃ b, ev T 6 [slE 6 fl (encTs locs)] [] = some (.bool b, []) ∧ (b = false → locs.length ≤ 40 ∧ ∀ t, t ∈ locs → cntT t ≤ 400) := by
    rw [ev_eq 6 F6 rfl, F6]
    simp
    refine (l6 locs fl hl hg 40 0 _ _ rfl (by omega) (by omega) ?_ ?_ (by simp)).use (fun r => (kfin _ (kseq _ (kblock 0 r)) = some (.bool false, []) ∧ _) ∨ kfin _ (kseq _ (kblock 0 r)) = some (.bool true, [])) ?_
    iterate 2 simp
    rintro e s' b' st ⟨rfl, h0, h⟩
    rcases h with ⟨rfl, h2⟩ | ⟨rfl, h2⟩
    · right; simp [h2]
    · by_cases h40 : 40 < locs.length
      · right
        have h40' : (40 : Int) < locs.length := by omega
        simp [h0, h40']
      · left
        have h40' : ¬ (40 : Int) < locs.length := by omega
        simp [h0, h40']
        exact ⟨by omega, fun t ht => h2 t (by rw [List.take_of_length_le (by omega)]; exact ht)⟩
  obtain ⟨b, h1, h2⟩ := go
  exact ⟨b, callD_pure (fn := F6) (st1 := []) (st2 := []) rfl rfl (by simp) h1 (by simp) (by simp), h2⟩

theorem ev3 (m : Tm) (fl : Fl) (locs : List Tm) (t : Tm) (hm : m.ok) (hl : locs.length ≤ 9223372036854775807) (hg : ∀ t, t ∈ locs → t.ok) (ht : t.ok) : ev T 3 [encT m, slE 6 fl (encTs locs), encT t] [] = some (.bool true, []) := by
  obtain ⟨bm, l1, m1⟩ := c5 m hm []
  obtain ⟨bt, l2, m2⟩ := c5 t ht []
  obtain ⟨bl, l3, m3⟩ := c6 locs fl hl hg []
  have a7 := c7 []
  rw [ev_eq 3 F3 rfl, F3]
  cases bm with
  | true => simp [← encT_eq, l1, a7]
  | false =>
    cases bt with
    | true => simp [← encT_eq, l1, l2, a7]
    | false =>
      cases bl with
      | true => simp [← encT_eq, l1, l2, l3, a7]
      | false =>
        have gm := good_of m hm (by have := m1 rfl; omega)
        have gt := good_of t ht (by have := m2 rfl; omega)
        obtain ⟨q1, q2⟩ := m3 rfl
        have gl : ∀ t, t ∈ locs → good t := fun t h => good_of t (hg t h) (by have := q2 t h; omega)
        have h8 := c8 gm gl (by omega) t gt fl []
        cases ho : ofT m locs t with
        | error x =>
          obtain ⟨a, e⟩ := x
          have he := ofT_err _ _ _ ho
          simp only [tells, ho] at h8
          simp [← encT_eq, l1, l2, l3, a7, h8, he]
        | ok x =>
          obtain ⟨a, s⟩ := x
          obtain ⟨ga, gs⟩ := ofT_good gm gl t gt a s ho
          have h8' := c8 gm gl (by omega) s gs fl []
          simp only [tells, ho] at h8
          simp only [tells, settle t a s ho] at h8'
          have p1 := c9 a (good_ok _ ga) []
          have p2 := c9 s (good_ok _ gs) []
          simp [← encT_eq, l1, l2, l3, a7, h8, h8', p1, p2]

theorem ev4 (m ah : Tm) (fl : Fl) (locs : List Tm) (t : Tm) (hm : m.ok) (ha : ah.ok) (hl : locs.length ≤ 9223372036854775807) (hg : ∀ t, t ∈ locs → t.ok) (ht : t.ok) :
    ∃ st', ev T 4 [.agg (clT m ++ clT ah ++ ([slE 6 fl (encTs locs)] ++ clT t))] [] = some (.bool true, st') := by
  obtain ⟨bm, l1, m1⟩ := c5 m hm []
  obtain ⟨bt, l2, m2⟩ := c5 t ht []
  obtain ⟨bl, l3, m3⟩ := c6 locs fl hl hg []
  obtain ⟨ba, l4, m4⟩ := c5 ah ha []
  have a7 := c7 []
  rw [ev_eq 4 F4 rfl, F4]
  cases bm with
  | true => simp [← encT_eq, l1, a7]
  | false =>
    cases bt with
    | true => simp [← encT_eq, l1, l2, a7]
    | false =>
      cases bl with
      | true => simp [← encT_eq, l1, l2, l3, a7]
      | false =>
        cases ba with
        | true => simp [← encT_eq, l1, l2, l3, l4, a7]
        | false =>
          have gm := good_of m hm (by have := m1 rfl; omega)
          have gt := good_of t ht (by have := m2 rfl; omega)
          have ga := good_of ah ha (by have := m4 rfl; omega)
          obtain ⟨q1, q2⟩ := m3 rfl
          have gl : ∀ t, t ∈ locs → good t := fun t h => good_of t (hg t h) (by have := q2 t h; omega)
          have h8 := c8 gm gl (by omega) t gt fl []
          cases ho : ofT m locs t with
          | error x =>
            obtain ⟨a, e⟩ := x
            have he := ofT_err _ _ _ ho
            simp only [tells, ho] at h8
            simp [← encT_eq, l1, l2, l3, l4, a7, h8, he]
          | ok x =>
            obtain ⟨a, s⟩ := x
            obtain ⟨gga, gs⟩ := ofT_good gm gl t gt a s ho
            have gl' : ∀ t, t ∈ ah :: locs → good t := fun t h => by
              rcases List.mem_cons.1 h with rfl | h
              · exact ga
              · exact gl t h
            simp only [tells, ho] at h8
            have mo := more ah t a s ho
            have hsrc : srcD [] 6 (slE 6 fl (encTs locs)) = some (encTs locs) := by
              have : srcD [] 6 (slE 6 fl (encTs locs)) = listD [] 6 (slE 6 fl (encTs locs)) := by cases fl <;> cases encTs locs <;> rfl
              rw [this, slE_list]
            cases locs with
            | nil =>
              have h8' := c8 (m := m) (locs := [ah]) gm gl' (by simp) t gt .full []
              simp only [tells, mo] at h8'
              have es : slE 6 .full (encTs [ah]) = .sl 6 true [encT ah] := by simp [slE]
              rw [es] at h8'
              have p1 := c9 a (good_ok _ gga) []
              have p2 := c9 s (good_ok _ gs) []
              have happ : appendD [] (.sl 6 true [encT ah]) [] 6 = some (.sl 6 true [encT ah], []) := by simp [appendD, most]
              simp only [encTs_nil] at hsrc h8 l3
              simp [← encT_eq, l1, l2, l3, l4, a7, h8, h8', hsrc, happ, p1, p2]
            | cons u us =>
              have hlen : us.length + 1 ≤ 40 := q1
              have happ : appendD [] (.sl 6 true [encT ah]) (encT u :: encTs us) 6 = some (.rs 0 0 6 0 (us.length + 2) false, [.cells false 6 0 0 false (encT ah :: encT u :: encTs us)]) := by
                have h1 : ¬ 4194304 < us.length + 1 := by omega
                simp [appendD, most, h1]
                omega
              have h8f := c8 (m := m) (locs := ah :: u :: us) gm gl' (by simp; omega) t gt .part [.cells false 6 0 1 true (encT ah :: encT u :: encTs us)]
              simp only [tells, mo] at h8f
              have h8' : callD T (ev T) 8 [encT m, .rs 0 0 6 0 (us.length + 2) false, encT t] [.cells false 6 0 0 false (encT ah :: encT u :: encTs us)] = some (.tup [encT a, encT s, .int .i64 0, .int .i64 0], [.cells false 6 0 1 true (encT ah :: encT u :: encTs us)]) := by
                refine callD_free (fn := F8) (args' := [encT m, slE 6 .part (encTs (ah :: u :: us)), encT t]) rfl rfl ?_ (by simp) h8f
                have hf : fz1 [.cells false 6 0 0 false (encT ah :: encT u :: encTs us)] (.rs 0 0 6 0 (us.length + 2) false) = some (.sl 6 false (encT ah :: encT u :: encTs us), [.cells false 6 0 1 true (encT ah :: encT u :: encTs us)]) := by
                  have : ∀ st, fz1 st (.rs 0 0 6 0 (us.length + 2) false) = fz0 st (.rs 0 0 6 0 (us.length + 2) false) := fun _ => rfl
                  rw [this, fz0_rs]
                  have h2 : List.take us.length (encTs us) = encTs us := List.take_of_length_le (by simp)
                  simp [h2]
                have h2 : List.take us.length (encTs us) = encTs us := List.take_of_length_le (by simp)
                simp [pureArgs, hf, slE, h2]
              have p1 := c9 a (good_ok _ gga) [.cells false 6 0 1 true (encT ah :: encT u :: encTs us)]
              have p2 := c9 s (good_ok _ gs) [.cells false 6 0 1 true (encT ah :: encT u :: encTs us)]
              have a7' := c7 [.cells false 6 0 1 true (encT ah :: encT u :: encTs us)]
              simp only [encTs_cons] at hsrc h8 l3
              simp [← encT_eq, l1, l2, l3, l4, a7', h8, h8', hsrc, happ, p1, p2]

end Go.Nt.Ty
