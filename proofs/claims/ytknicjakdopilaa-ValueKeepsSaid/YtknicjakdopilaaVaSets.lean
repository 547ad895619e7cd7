/-
  PARTS OF VALUES: the walks of 'Get', 'Set', 'Leads'.
-/
import Derived.Test.YtknicjakdopilaaVaSame
set_option linter.unusedSimpArgs false
namespace Go.Nt.Va
open Go Go.Nt

abbrev V0 : V := .mk 0 .nil []

def getV : V → List Int → V × Bool
  | v, [] => (v, true)
  | v, i :: w => if h : 0 ≤ i ∧ i < v.l.length then getV (v.l[i.toNat]'(by omega)) w else (V0, false)

def setV : V → List Int → V → V × Bool
  | _, [], x => (x, true)
  | v, i :: w, x => if h : 0 ≤ i ∧ i < v.l.length then
      (if (setV (v.l[i.toNat]'(by omega)) w x).2 then (.mk v.n .part (v.l.set i.toNat (setV (v.l[i.toNat]'(by omega)) w x).1), true) else (V0, false)) else (V0, false)

def setR : V → List Int → V → V
  | _, [], x => x
  | v, i :: w, x => if h : 0 ≤ i ∧ i < v.l.length then .mk v.n .emp (v.l.set i.toNat (setR (v.l[i.toNat]'(by omega)) w x)) else v

abbrev cl (v : V) : List D := [.int .i64 v.n, slE 2 v.fl (encVs v.l)]
abbrev encW (w : List Int) : List D := w.map (.int .i64)

theorem c7 (st : St) : callD T (ev T) 7 [] st = some (.bool true, st) := by
  refine callD_pure (fn := F7) (r := .bool true) (q := .bool true) (st1 := []) (st2 := []) rfl rfl (by simp) ?_ (by simp) (by simp)
  exact evT_ev 30 7 [] [] _ (by kernel_rfl)

theorem encV_V0 : encV V0 = .agg [.int .i64 0, .nils] := by simp [encV, slE]

theorem l8 (w : List Int) (hw : w.length ≤ 1000000) (fl : Fl) : ∀ (r i : Nat) (v : V) (s : List D) (bx : List (Nat × List D)), r = w.length - i → i ≤ w.length → get s 8 = slE 1 fl (encW w) → get s 9 = .i w.length → get s 10 = .int .i64 i →
    get s 2 = .lp 2 1 0 → getB bx 2 = (1, cl v) → get s 4 = .lp 4 1 0 → getB bx 4 = (1, [.int .i64 0, .nils]) →
    Stops (lp T L8_0 ⟨⟨s, bx⟩, []⟩) fun e s' b' st' => st' = [] ∧ get s' 4 = .lp 4 1 0 ∧ getB b' 4 = (1, [.int .i64 0, .nils]) ∧
      (((getV v (w.drop i)).2 = true ∧ e = .exit 0 ∧ get s' 2 = .lp 2 1 0 ∧ getB b' 2 = (1, cl (getV v (w.drop i)).1)) ∨ ((getV v (w.drop i)) = (V0, false) ∧ e = .ret ∧ get s' 5 = .bool false)) := by
  intro r
  induction r with
  | zero =>
    intro i v s bx hr hi h8 h9 h10 h2 b2 h4 b4
    have e : i = w.length := by omega
    subst e
    rw [lp_kL, L8_0, List.drop_length]
    simp [h8, h9, h10, h2, b2, h4, b4, getV]
  | succ r ihr =>
    intro i v s bx hr hi h8 h9 h10 h2 b2 h4 b4
    rw [lp_kL, L8_0]
    have hlt : i < w.length := by omega
    have hw : IntKind.wrap .i64 ((i : Int) + 1) = i + 1 := by rw [wrap64] <;> omega
    rw [List.drop_eq_getElem_cons hlt, getV]
    by_cases g0 : w[i] < 0
    · have g : ¬ (0 ≤ w[i] ∧ w[i] < v.l.length) := by omega
      rw [dif_neg g]
      simp [h8, h9, h10, h2, b2, h4, b4, hlt, g0, encV_V0, fillD]
    · by_cases g1 : w[i] < v.l.length
      · have g : 0 ≤ w[i] ∧ w[i] < v.l.length := by omega
        have g2 : w[i].toNat < v.l.length := by omega
        have g3 : ¬ (v.l.length : Int) ≤ w[i] := by omega
        rw [dif_pos g]
        simp [h8, h9, h10, h2, b2, h4, b4, hlt, g0, g2, g3, hw]
        rw [← L8_0]
        refine ihr (i + 1) _ _ _ (by omega) (by omega) ?_ ?_ ?_ ?_ ?_ ?_ ?_
        iterate 7 simp [h8, h9, h2, h4, b4]
      · have g : ¬ (0 ≤ w[i] ∧ w[i] < v.l.length) := by omega
        have g3 : (v.l.length : Int) ≤ w[i] := by omega
        rw [dif_neg g]
        simp [h8, h9, h10, h2, b2, h4, b4, hlt, g0, g3, encV_V0]

theorem c8 (w : List Int) (hw : w.length ≤ 1000000) (fl : Fl) (v : V) (st : St) : callD T (ev T) 8 [encV v, slE 1 fl (encW w)] st = some (.tup [encV (getV v w).1, .bool (getV v w).2], st) := by
  refine callD_pure (fn := F8) rfl rfl (by simp) (r := .tup [encV (getV v w).1, .bool (getV v w).2]) (st1 := []) (st2 := []) ?_ (by simp) (by simp)
  rw [ev_eq 8 F8 rfl, F8]
  simp
  refine (l8 w hw fl _ 0 v _ _ rfl (by omega) ?_ ?_ ?_ ?_ ?_ ?_ ?_).use (fun r => kfin _ (kseq _ (kblock 0 r)) = _) ?_
  iterate 7 simp
  rintro e s' b' st ⟨rfl, h4, b4, ⟨h1, rfl, h2, h3⟩ | ⟨h1, rfl, h2⟩⟩
  · simp at h1 h3
    simp [h4, b4, h1, h2, h3, encV_eq]
  · simp at h1
    simp [h4, b4, h1, h2, encV_V0]
    
theorem c10 (v : V) : ∀ (w : List Int) (fl : Fl) (st : St), callD T (ev T) 10 [encV v, slE 1 fl (encW w)] st = some (.bool (getV v w).2, st) := by
  intro w
  induction w generalizing v with
  | nil =>
    intro fl st
    refine callD_pure (fn := F10) rfl rfl (by simp) (r := .bool (getV v []).2) (st1 := []) (st2 := []) ?_ (by simp) (by simp)
    rw [ev_eq 10 F10 rfl, F10]
    simp [getV]
  | cons i w ih =>
    intro fl st
    refine callD_pure (fn := F10) rfl rfl (by simp) (r := .bool (getV v (i :: w)).2) (st1 := []) (st2 := []) ?_ (by simp) (by simp)
    rw [ev_eq 10 F10 rfl, F10]
    by_cases g0 : 0 ≤ i
    · by_cases g1 : i < v.l.length
      · have g2 : i.toNat < v.l.length := by omega
        have g3 : ¬ i < 0 := by omega
        simp [getV, g0, g1, g2, g3, ih, ← encV_eq]
      · simp [getV, g0, g1]
    · simp [getV, g0]

theorem c12 (v : V) : ∀ (w : List Int) (fl : Fl) (st : St), (getV v w).2 = true → callD T (ev T) 12 [encV v, slE 1 fl (encW w)] st = some (encV (getV v w).1, st) := by
  intro w
  induction w generalizing v with
  | nil =>
    intro fl st _
    refine callD_pure (fn := F12) rfl rfl (by simp) (r := encV (getV v []).1) (st1 := []) (st2 := []) ?_ (by simp) (by simp)
    rw [ev_eq 12 F12 rfl, F12]
    simp [getV, ← encV_eq]
  | cons i w ih =>
    intro fl st hg
    refine callD_pure (fn := F12) rfl rfl (by simp) (r := encV (getV v (i :: w)).1) (st1 := []) (st2 := []) ?_ (by simp) (by simp)
    rw [ev_eq 12 F12 rfl, F12]
    by_cases g : 0 ≤ i ∧ i < v.l.length
    · rw [getV, dif_pos g] at hg ⊢
      have g2 : i.toNat < v.l.length := by omega
      have g3 : ¬ i < 0 := by omega
      simp [g.1, g.2, g2, g3, ih _ _ _ hg, ← encV_eq]
    · rw [getV, dif_neg g] at hg; cases hg

theorem c22 (fl : Fl) (l : List V) (h0 : l ≠ []) (h : l.length ≤ 1000000) : callD T (ev T) 22 [slE 2 fl (encVs l)] [] = some (.rs 0 0 2 0 l.length false, [.cells false 2 0 0 false (encVs l)]) := by
  have e : eqnD .slice (slE 2 fl (encVs l)) .nils = some false := by
    cases l with
    | nil => exact absurd rfl h0
    | cons v l => cases fl <;> simp [slE]
  have e2 : ¬ 4194304 < l.length := by omega
  have e3 : encVs l ≠ [] := by cases l <;> simp_all
  have go : ev T 22 [slE 2 fl (encVs l)] [] = some (.rs 0 0 2 0 l.length false, [.cells false 2 0 0 false (encVs l)]) := by
    rw [ev_eq 22 F22 rfl, F22]
    have e4 : srcD [] 2 (slE 2 fl (encVs l)) = some (encVs l) := by
      have : srcD [] 2 (slE 2 fl (encVs l)) = listD [] 2 (slE 2 fl (encVs l)) := by cases fl <;> cases l <;> rfl
      rw [this, slE_list]
    simp [e, e4, appendD, e2, e3, most]
  simp only [callD, show T 22 = some F22 from rfl, show F22.mode = .raw from rfl, List.all_cons, slE_okv, List.all_nil, Bool.and_self, if_true]
  exact go

/-- The slices along any way of that length are not too long. -/
def slim : V → List Int → Prop
  | _, [] => True
  | v, _ :: w => v.l.length ≤ 1000000 ∧ ∀ u, u ∈ v.l → slim u w

theorem slim_cnt : ∀ (w : List Int) (v : V), cnt v ≤ 1000000 → slim v w
  | [], _, _ => trivial
  | _ :: w, v, h => ⟨by have := cnts_len v.l; have := cnt_eq v; omega, fun u hu => slim_cnt w u (by have := cnts_mem hu; have := cnt_eq v; omega)⟩

theorem c9s (x : V) : ∀ (w : List Int) (v : V) (fl : Fl) (st : St), slim v w → callD T (ev T) 9 [encV v, slE 1 fl (encW w), encV x] st = some (.tup [encV (setV v w x).1, .bool (setV v w x).2], st) := by
  intro w
  induction w with
  | nil =>
    intro v fl st _
    refine callD_pure (fn := F9) rfl rfl (by simp) (r := .tup [encV (setV v [] x).1, .bool (setV v [] x).2]) (st1 := []) (st2 := []) ?_ (by simp) (by simp)
    rw [ev_eq 9 F9 rfl, F9]
    simp [setV, ← encV_eq]
  | cons i w ih =>
    intro v fl st hv
    have hlen : v.l.length ≤ 1000000 := hv.1
    by_cases g : 0 ≤ i ∧ i < v.l.length
    · have g2 : i.toNat < v.l.length := by omega
      have g3 : ¬ i < 0 := by omega
      have g4 : ¬ (v.l.length : Int) ≤ i := by omega
      have q := ih (v.l[i.toNat]) (fl.sub (.int .i64 i :: encW w)) [] (hv.2 _ (List.getElem_mem g2))
      cases hs : (setV v.l[i.toNat] w x).2 with
      | true =>
        refine callD_pure (fn := F9) rfl rfl (by simp) (r := .tup [.agg [.int .i64 v.n, .rs 0 0 2 0 v.l.length false], .bool true]) (st1 := [.cells false 2 0 1 false (encVs (v.l.set i.toNat (setV v.l[i.toNat] w x).1))])
          (st2 := [.cells false 2 0 2 true (encVs (v.l.set i.toNat (setV v.l[i.toNat] w x).1))]) ?_ ?_ (by simp)
        · rw [ev_eq 9 F9 rfl, F9]
          have hne : v.l ≠ [] := by intro h; rw [h] at g2; simp at g2
          simp [g.1, g.2, g2, g3, g4, q, hs, ← encV_eq, c22 v.fl v.l hne hlen, kHs_encV _ _ _ _ g2]
        · have e : ∀ y, List.take v.l.length (encVs (v.l.set i.toNat y)) = encVs (v.l.set i.toNat y) := fun y => List.take_of_length_le (by simp)
          simp [setV, g, hs, encV, slE, e]
      | false =>
        refine callD_pure (fn := F9) rfl rfl (by simp) (r := .tup [encV (setV v (i :: w) x).1, .bool (setV v (i :: w) x).2]) (st1 := []) (st2 := []) ?_ (by simp) (by simp)
        rw [ev_eq 9 F9 rfl, F9]
        simp [setV, g.1, g.2, g2, g3, g4, q, hs, ← encV_eq, encV_V0]
    · refine callD_pure (fn := F9) rfl rfl (by simp) (r := .tup [encV (setV v (i :: w) x).1, .bool (setV v (i :: w) x).2]) (st1 := []) (st2 := []) ?_ (by simp) (by simp)
      rw [ev_eq 9 F9 rfl, F9, setV, dif_neg g]
      by_cases g0 : i < 0
      · simp [g0, encV_V0]
      · have g3 : (v.l.length : Int) ≤ i := by omega
        simp [g0, g3, encV_V0]

theorem c9 (x : V) (w : List Int) (v : V) (fl : Fl) (st : St) (hv : cnt v ≤ 1000000) : callD T (ev T) 9 [encV v, slE 1 fl (encW w), encV x] st = some (.tup [encV (setV v w x).1, .bool (setV v w x).2], st) :=
  c9s x w v fl st (slim_cnt w v hv)

theorem l13 (v x : V) (i0 : Int) (w : List Int) (fl : Fl) (hg : 0 ≤ i0 ∧ i0 < v.l.length) (hlen : v.l.length ≤ 1000000) (y : V)
    (hy : ∀ st, callD T (ev T) 13 [encV (v.l[i0.toNat]'(by omega)), slE 1 (fl.sub (.int .i64 i0 :: encW w)) (encW w), encV x] st = some (encV y, st)) :
    ∀ (r i : Nat) (s : List D) (bx : List (Nat × List D)), r = v.l.length - i → i ≤ v.l.length → get s 1 = slE 1 fl (encW (i0 :: w)) → get s 3 = .lp 3 1 0 → get s 5 = .lp 5 1 0 → get s 6 = .lp 6 1 0 → getB bx 3 = (1, cl v) → getB bx 5 = (1, cl x) → getB bx 6 = (1, [.int .i64 0, .nils]) →
    get s 8 = .int .i64 i → get s 7 = (grown (seed 2 .emp) 2 (encVs ((v.l.set i0.toNat y).take i))).1 →
    Stops (lp T L13_0 ⟨⟨s, bx⟩, (grown (seed 2 .emp) 2 (encVs ((v.l.set i0.toNat y).take i))).2⟩) fun e s' b' st' => e = .exit 0 ∧ st' = (grown (seed 2 .emp) 2 (encVs (v.l.set i0.toNat y))).2 ∧
      get s' 7 = (grown (seed 2 .emp) 2 (encVs (v.l.set i0.toNat y))).1 ∧ get s' 3 = .lp 3 1 0 ∧ get s' 6 = .lp 6 1 0 ∧ getB b' 3 = (1, cl v) ∧ getB b' 6 = (1, [.int .i64 0, .nils]) := by
  intro r
  induction r with
  | zero =>
    intro i s bx hr hi h1 h3 h5 h6 b3 b5 b6 h8 h7
    have e : i = v.l.length := by omega
    subst e
    have q : (v.l.set i0.toNat y).take v.l.length = v.l.set i0.toNat y := List.take_of_length_le (by simp)
    rw [q] at h7 ⊢
    rw [lp_kL, L13_0]
    simp [h1, h3, h5, h6, b3, b5, b6, h8, h7]
  | succ r ihr =>
    intro i s bx hr hi h1 h3 h5 h6 b3 b5 b6 h8 h7
    have hlt : i < v.l.length := by omega
    have hw : IntKind.wrap .i64 ((i : Int) + 1) = i + 1 := by rw [wrap64] <;> omega
    have hlt' : i < (v.l.set i0.toNat y).length := by simpa using hlt
    have q : encVs ((v.l.set i0.toNat y).take (i + 1)) = encVs ((v.l.set i0.toNat y).take i) ++ [encV ((v.l.set i0.toNat y)[i])] := by
      rw [List.take_succ_eq_append_getElem hlt', encVs_append]; simp
    have gr := grow .emp 2 (encVs ((v.l.set i0.toNat y).take i)) (encV ((v.l.set i0.toNat y)[i])) (by simp; omega)
    have nx := ihr (i + 1)
    rw [q] at nx
    rw [lp_kL, L13_0]
    by_cases hi0 : (i : Int) = i0
    · subst hi0
      have e2 : (v.l.set (i : Int).toNat y)[i] = y := by simp
      rw [e2] at gr nx
      simp only [Int.toNat_natCast] at *
      simp [h1, h3, h5, h6, b3, b5, b6, h8, h7, hlt, hw, srcD, listD, ← encV_eq, hy, gr]
      rw [← L13_0]
      refine nx _ _ (by omega) (by omega) ?_ ?_ ?_ ?_ b3 b5 b6 ?_ ?_
      iterate 6 simp [h1, h3, h5, h6]
    · have e2 : (v.l.set i0.toNat y)[i] = v.l[i] := by
        rw [List.getElem_set_ne (by omega)]
      rw [e2] at gr nx
      simp [h1, h3, h5, h6, b3, b5, b6, h8, h7, hlt, hi0, hw, srcD, listD, ← encV_eq, gr]
      rw [← L13_0]
      refine nx _ _ (by omega) (by omega) ?_ ?_ ?_ ?_ b3 b5 b6 ?_ ?_
      iterate 6 simp [h1, h3, h5, h6]

theorem c13 (x : V) : ∀ (w : List Int) (v : V) (fl : Fl) (st : St), cnt v ≤ 1000000 → (getV v w).2 = true → callD T (ev T) 13 [encV v, slE 1 fl (encW w), encV x] st = some (encV (setR v w x), st) := by
  intro w
  induction w with
  | nil =>
    intro v fl st _ _
    refine callD_pure (fn := F13) rfl rfl (by simp) (r := encV (setR v [] x)) (st1 := []) (st2 := []) ?_ (by simp) (by simp)
    rw [ev_eq 13 F13 rfl, F13]
    simp [setR, ← encV_eq]
  | cons i w ih =>
    intro v fl st hv hg
    have hlen : v.l.length ≤ 1000000 := by have := cnts_len v.l; have := cnt_eq v; omega
    by_cases g : 0 ≤ i ∧ i < v.l.length
    · rw [getV, dif_pos g] at hg
      have g2 : i.toNat < v.l.length := by omega
      rw [setR, dif_pos g]
      refine callD_pure (fn := F13) rfl rfl (by simp) (r := .agg [.int .i64 v.n, (grown (seed 2 .emp) 2 (encVs (v.l.set i.toNat (setR v.l[i.toNat] w x)))).1]) (st1 := (grown (seed 2 .emp) 2 (encVs (v.l.set i.toNat (setR v.l[i.toNat] w x)))).2) (st2 := grownZ 2 (encVs (v.l.set i.toNat (setR v.l[i.toNat] w x)))) ?_ ?_ (by simp)
      · rw [ev_eq 13 F13 rfl, F13]
        simp
        refine (l13 v x i w fl g hlen (setR v.l[i.toNat] w x) (fun st => ih _ _ st (by have := cnts_mem (List.getElem_mem g2); have := cnt_eq v; omega) hg) _ 0 _ _ rfl (by omega) ?_ ?_ ?_ ?_ ?_ ?_ ?_ ?_ ?_).use (fun r => kfin _ (kseq _ (kblock 0 r)) = _) ?_
        iterate 9 simp [seed]
        rintro e s' b' st ⟨rfl, rfl, h7, h3, h6, b3, b6⟩
        simp [h7, h3, h6, b3, b6, fillD]
      · simp [encV, Fl.grew]
    · rw [getV, dif_neg g] at hg; cases hg
end Go.Nt.Va
