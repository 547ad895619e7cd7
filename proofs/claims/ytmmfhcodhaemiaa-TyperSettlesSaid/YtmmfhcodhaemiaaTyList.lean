/-
  ARRAYS' TYPES: the walk.
-/
import Derived.Test.YtmmfhcodhaemiaaTyField
set_option linter.unusedSimpArgs false
namespace Go.Nt.Ty
open Go Go.Nt

variable {m : Tm} {fl : Fl} {locs : List Tm} {at0 e0 : Int} {md : Nat}

theorem encTs_pure (l : List Tm) : (encTs l).all D.pure = true := by
  induction l <;> simp_all

theorem l24b (tys : List Tm) (p0 : Tm) (hp0 : tys[0]? = some p0) (pid pv pm : Nat) (fr : Bool) (st : St) (hp : St.at st pid = .cells false 6 pv pm fr (encTs tys)) (hl : tys.length ≤ 1000000) (hg : ∀ t, t ∈ tys → t.ok) :
    ∀ (r i : Nat) (s : List D) (bx : List (Nat × List D)), r = tys.length - i → i ≤ tys.length → get s 1 = .rs pid pv 6 0 tys.length false → get s 9 = .rs pid pv 6 0 tys.length false → get s 10 = .i tys.length → get s 11 = .int .i64 i →
    get s 4 = .lp 4 1 0 → getB bx 4 = (1, z6) → get s 0 = .hp 0 0 9 0 0 →
    Stops (lp T L24_0 ⟨⟨s, bx⟩, st⟩) fun e s' b' st' => st' = st ∧ get s' 4 = .lp 4 1 0 ∧ getB b' 4 = (1, z6) ∧ get s' 0 = .hp 0 0 9 0 0 ∧ get s' 1 = .rs pid pv 6 0 tys.length false ∧
      (if (tys.drop i).all (fun t => sameT t p0) then e = .exit 0 else e = .ret ∧ get s' 5 = .int .i64 10) := by
  intro r
  induction r with
  | zero =>
    intro i s bx hr hi h1 h9 h10 h11 h4 b4 h0
    have e : i = tys.length := by omega
    subst e
    rw [lp_kL, L24_0, List.drop_length]
    simp [h1, h9, h10, h11, h4, b4, h0]
  | succ r ihr =>
    intro i s bx hr hi h1 h9 h10 h11 h4 b4 h0
    have hlt : i < tys.length := by omega
    have hpos : 0 < tys.length := by omega
    have hw : IntKind.wrap .i64 ((i : Int) + 1) = i + 1 := by rw [wrap64] <;> omega
    have q : (tys.drop i).all (fun t => sameT t p0) = (sameT tys[i] p0 && (tys.drop (i + 1)).all (fun t => sameT t p0)) := by rw [List.drop_eq_getElem_cons hlt, List.all_cons]
    have h28 := c28 tys[i] (hg _ (List.getElem_mem hlt)) p0 st
    have e0 : tys[0] = p0 := by rw [List.getElem?_eq_getElem hpos] at hp0; exact Option.some.inj hp0
    rw [q]
    rw [lp_kL, L24_0]
    cases hs : sameT tys[i] p0 with
    | true =>
      rw [hs] at h28
      have nx := ihr (i + 1)
      rw [Bool.true_and]
      simp [h1, h9, h10, h11, h4, b4, h0, hlt, hpos, hw, hp, e0, ← encT_eq, h28, -List.all_eq_true]
      rw [← L24_0]
      refine nx _ _ (by omega) (by omega) ?_ ?_ ?_ ?_ ?_ ?_ ?_
      iterate 7 simp [h1, h9, h10, h11, h4, b4, h0]
    | false =>
      rw [hs] at h28
      simp [h1, h9, h10, h11, h4, b4, h0, hlt, hpos, hw, hp, e0, ← encT_eq, h28]

theorem c24b {st : St} (h0 : St.at st 0 = tyO m fl locs at0 e0 md) (hm : good m) (tys : List Tm) (p0 : Tm) (hp0 : tys[0]? = some p0) (pid pv pm : Nat) (fr : Bool) (hp : St.at st pid = .cells false 6 pv pm fr (encTs tys)) (hne : pid < st.length) (hpid : 0 ≠ pid)
    (hl : tys.length ≤ 1000000) (hg : ∀ t, t ∈ tys → good t) :
    ∃ st', callD T (ev T) 24 [.hp 0 0 9 0 0, .rs pid pv 6 0 tys.length false] st = some (.tup [encT (listT m p0 tys).1, .int .i64 (listT m p0 tys).2], st') ∧ st'.length = st.length ∧ ∀ i, i ≠ pid → St.at st' i = St.at st i := by
  have hpos : 0 < tys.length := (List.getElem?_eq_some_iff.1 hp0).1
  have e0 : tys[0] = p0 := (List.getElem?_eq_some_iff.1 hp0).2
  have gp0 : good p0 := by rw [← e0]; exact hg _ (List.getElem_mem hpos)
  unfold listT
  cases ha : tys.all (fun t => sameT t p0) with
  | false =>
    refine ⟨st, ?_, rfl, fun _ _ => rfl⟩
    refine callD_cut (fn := F24) (r := .tup [encT T0, .int .i64 10]) (st1 := st) (st2 := st) rfl rfl (by simp) ?_ (by simp) (by simp) (settled_of (Nat.le_refl _) fun _ _ => .inl rfl) (List.take_of_length_le (Nat.le_refl _))
    rw [ev_eq 24 F24 rfl, F24]
    simp
    refine (l24b tys p0 hp0 pid pv pm fr st hp hl (fun t ht => good_ok _ (hg t ht)) _ 0 _ _ rfl (by omega) ?_ ?_ ?_ ?_ ?_ ?_ ?_).use (fun r => kfin _ (kseq _ (kblock 0 r)) = _) ?_
    iterate 7 simp
    rintro e s' b' st ⟨rfl, q4, p4, q0, q1, h⟩
    rw [List.drop_zero, ha] at h
    simp at h
    obtain ⟨rfl, q5⟩ := h
    simp [q4, p4, q5, encT_K]
  | true =>
    have h29 := c29 m (.mk 3 tys.length [] .full [p0] 0 0) (good_ok _ hm) (good_len hm) ((Tm.ok_iff _).2 ⟨by simp [in64], by simp [in64]; omega, by simp, by simp [in64], by simp [in64], by simp, fun u hu => by simp at hu; subst hu; exact good_ok _ gp0⟩)
    obtain ⟨p1, tl, htys⟩ : ∃ p1 tl, tys = p1 :: tl := by cases tys with | nil => simp at hpos | cons a b => exact ⟨a, b, rfl⟩
    have hp1 : p1 = p0 := by subst htys; simpa using hp0
    have ea : encT (.mk 3 tys.length [] .full [p0] 0 0) = .agg [.int .i64 3, .int .i64 tys.length, .str [], .sl 6 true [encT p0], .int .i64 0, .int .i64 0] := by simp [encT, slE]
    let st' : St := if fr then st else List.set st pid (.cells false 6 pv (pm + 1) true (encTs tys))
    have hst' : st' = if fr then st else List.set st pid (.cells false 6 pv (pm + 1) true (encTs tys)) := rfl
    clear_value st'
    have hlen : st'.length = st.length := by rw [hst']; cases fr <;> simp
    have hat : ∀ i, i ≠ pid → St.at st' i = St.at st i := by
      intro i hi
      rw [hst']; cases fr with
      | true => rfl
      | false => simp only [Bool.false_eq_true, if_false]; rw [at_set _ _ _ _ hne, if_neg hi]
    have hatp : ∃ pm', St.at st' pid = .cells false 6 pv pm' true (encTs tys) := by
      rw [hst']; cases fr with
      | true => exact ⟨pm, hp⟩
      | false => exact ⟨pm + 1, by simp only [Bool.false_eq_true, if_false]; rw [at_set _ _ _ _ hne, if_pos rfl]⟩
    obtain ⟨pm', hatp⟩ := hatp
    have hfz : ∀ (full : Bool), fz0 st (.rs pid pv 6 0 1 full) = some (.sl 6 full [encT p0], st') := by
      intro full
      rw [hst', fz0_rs, hp]
      simp [htys, hp1]
    have hset : settled st st' = true := settled_of (by omega) fun i hi => by
      by_cases e : i = pid
      · subst e; right; rw [hatp]; exact encTs_pure tys
      · exact .inl (hat i e)
    have h29' : callD T (ev T) 29 [encT m, .agg [.int .i64 3, .int .i64 tys.length, .str [], .rs pid pv 6 0 1 true, .int .i64 0, .int .i64 0]] st = some (.int .i64 (cellsV m (.mk 3 tys.length [] .full [p0] 0 0)), st') := by
      refine callD_free (fn := F29) (args' := [encT m, encT (.mk 3 tys.length [] .full [p0] 0 0)]) rfl rfl ?_ (by simp) (h29 st')
      rw [ea]
      simp [hfz]
    have hfz' : fz0 st' (.rs pid pv 6 0 1 true) = some (.sl 6 true [encT p0], st') := by
      rw [fz0_rs, hatp]
      simp [htys, hp1]
    have hfin : st'.take st.length = st' := List.take_of_length_le (by omega)
    refine ⟨st', ?_, hlen, hat⟩
    have hsl : sliceD (.rs pid pv 6 0 tys.length false) none (some (.int .i64 1)) (some (.int .i64 1)) = some (.rs pid pv 6 0 1 true) := by
      have hle1 : (1 : Int) ≤ tys.length := by omega
      simp [sliceD, hle1]
    by_cases hz : cellsV m (.mk 3 tys.length [] .full [p0] 0 0) = 0
    · rw [hz] at h29'
      simp only [if_true, hz]
      refine callD_cut (fn := F24) (r := .tup [encT T0, .int .i64 11]) (st1 := st') (st2 := st') rfl rfl (by simp) ?_ (by simp) (by simp) hset hfin
      rw [ev_eq 24 F24 rfl, F24]
      simp
      refine (l24b tys p0 hp0 pid pv pm fr st hp hl (fun t ht => good_ok _ (hg t ht)) _ 0 _ _ rfl (by omega) ?_ ?_ ?_ ?_ ?_ ?_ ?_).use (fun r => kfin _ (kseq _ (kblock 0 r)) = _) ?_
      iterate 7 simp
      rintro e s' b' st ⟨rfl, q4, p4, q0, q1, h⟩
      rw [List.drop_zero, ha] at h
      simp at h
      subst h
      simp [q4, p4, q0, q1, hsl, h0, tyO, ← encT_eq m, h29', encT_K]
    · simp only [if_true, if_neg hz]
      refine callD_cut (fn := F24) (r := .tup [.agg [.int .i64 3, .int .i64 tys.length, .str [], .rs pid pv 6 0 1 true, .int .i64 0, .int .i64 0], .int .i64 0]) (st1 := st') (st2 := st') rfl rfl (by simp) ?_ (by rw [ea]; simp [hfz']) (by simp) hset hfin
      rw [ev_eq 24 F24 rfl, F24]
      simp
      refine (l24b tys p0 hp0 pid pv pm fr st hp hl (fun t ht => good_ok _ (hg t ht)) _ 0 _ _ rfl (by omega) ?_ ?_ ?_ ?_ ?_ ?_ ?_).use (fun r => kfin _ (kseq _ (kblock 0 r)) = _) ?_
      iterate 7 simp
      rintro e s' b' st ⟨rfl, q4, p4, q0, q1, h⟩
      rw [List.drop_zero, ha] at h
      simp at h
      subst h
      simp [q4, p4, q0, q1, hsl, h0, tyO, ← encT_eq m, h29', hz]

end Go.Nt.Ty
