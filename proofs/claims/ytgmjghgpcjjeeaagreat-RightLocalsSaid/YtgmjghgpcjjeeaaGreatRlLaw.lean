/-
  RIGHT MODULES: the example is answered.
  No condition.
-/
import Derived.Test.YtgmjghgpcjjeeaaGreatRlWa
import Derived.KernelRfl
import Derived.Test.YtgmjghgpcjjeeaaGreatRlX4
import Derived.Test.YtgmjghgpcjjeeaaGreatRlWm
set_option linter.unusedSimpArgs false
namespace Go.Nt.Ty
open Go Go.Nt

theorem e29 : ∃ st', ev T 29 [] [] = some (.bool true, st') := by
  have h : (evT T 400 29 [] []).map (·.1) = some (.bool true) := by kernel_rfl
  obtain ⟨⟨r, st'⟩, h1, h2⟩ := Option.map_eq_some_iff.1 h
  simp only at h2
  subst h2
  exact ⟨st', evT_ev 400 29 [] [] _ h1⟩
theorem c29 (st : St) : callD T (ev T) 29 [] st = some (.bool true, st) := by
  obtain ⟨st', h⟩ := e29
  exact callD_pure (fn := F29) (st2 := st') rfl rfl (by simp) h (by simp) (by simp)

end Go.Nt.Ty

/-
  RIGHT MODULES: the law of locals.
  No condition.
-/
set_option linter.unusedSimpArgs false
set_option maxRecDepth 20000
namespace Go.Nt.Ty
open Go Go.Nt

variable {m : Tm}

theorem alk_alike : ∀ (l k : List Tm), Alk l k → alikeT l k = true
  | [], [], _ => rfl
  | [], _ :: _, h => by cases h
  | _ :: _, [], h => by cases h
  | a :: l, b :: k, h => by
    unfold Alk at h
    simp only [List.map_cons, List.cons.injEq] at h
    simp only [alikeT, same_of_uf h.1, alk_alike l k h.2, Bool.and_self]

theorem fn_good {p : Tm} (gp : good p) (hp : partedT p.l = true) : Good (p.l.map tyOf) := fun v hv => by
  obtain ⟨x, hx, rfl⟩ := List.mem_map.1 hv
  have := List.all_eq_true.1 hp _ hx
  simp only [Bool.and_eq_true, decide_eq_true_eq] at this
  obtain ⟨y, hy⟩ := List.length_eq_one_iff.1 this.2
  rw [tyOf, hy]
  exact good_mem (good_mem gp hx) (by rw [hy]; simp)

theorem belowT_good (gm : good m) {n : Nat} : ∀ (w : List Int) (t : Tm) (locs : List Tm), good t → Good locs → (atT t w).2 = true → locs.length + cntT t ≤ n → Good (belowT m locs t w) ∧ (belowT m locs t w).length ≤ n
  | [], t, locs, _, G, _, h => ⟨G, by rw [belowT]; omega⟩
  | i :: w, t, locs, gt, G, ha, h => by
    obtain ⟨x, hi, hx, e⟩ := at_cons ha
    rw [e] at ha
    obtain ⟨g2, hxe⟩ := List.getElem?_eq_some_iff.1 hx
    have hct := cntT_eq t
    have hsum : cntT t.l[i.toNat] + i.toNat ≤ cntTs t.l := by
      have a := List.take_append_drop i.toNat t.l
      have b : cntTs t.l = cntTs (t.l.take i.toNat) + cntTs (t.l.drop i.toNat) := by rw [← cntTs_app, a]
      rw [List.drop_eq_getElem_cons g2, cntTs] at b
      have c := cntTs_len (t.l.take i.toNat)
      rw [List.length_take] at c
      omega
    rw [hxe] at hsum
    have gx : good x := good_mem gt (List.mem_of_getElem? hx)
    rw [belowT, hx]
    simp only [Option.getD_some]
    unfold stepT
    split
    · obtain ⟨a, b⟩ := bringTs_good gm (t.l.take i.toNat) (fun u hu => good_mem gt (List.mem_of_mem_take hu)) locs G
      rw [List.length_take] at b
      exact belowT_good gm w x _ gx a ha (by omega)
    split
    · next h25 =>
      refine belowT_good gm w x _ gx (fun v hv => ?_) ha (by simp; omega)
      rcases List.mem_append.1 hv with q | q
      · exact G v q
      · rw [List.mem_singleton] at q; subst q; exact good_K 1 (by simp [in64])
    · exact belowT_good gm w x _ gx G ha (by omega)

/-- What the program and the reference tell at a way. -/
def Tells (m : Tm) (fw : Fl) (w : List Int) (L1 L2 : List Tm) : Prop :=
  (∃ f1, ∀ st, callD T (ev T) 33 [encT m, slE 1 fw (encW w)] st = some (.tup [slE 6 f1 (encTs L1), .bool true], st)) ∧
  (∃ f2, ∀ st, callD T (ev T) 37 [encT m, slE 1 fw (encW w)] st = some (slE 6 f2 (encTs L2), st)) ∧ Alk L2 L1 ∧ Good L1 ∧ L1.length ≤ 1000000 ∧ ((atT m w).1.k = 7 → (atT m w).1.n < L1.length)

/-- Where the way leads: into a function's body, or not. -/
theorem tells_at (gm : good m) (hc : cntT m ≤ 400) (hr : rightE m = true) (fw : Fl) (w : List Int) (hw : w.length ≤ 100) (ha : (atT m w).2 = true) : ∃ L1 L2, Tells m fw w L1 L2 := by
  obtain ⟨mk, dok⟩ := right_ok hr
  have hcm := cntT_eq m
  have hml := cntTs_len m.l
  match w, hw, ha with
  | [], hw, ha =>
    refine ⟨[], [], ⟨.nil, fun st => c33s [] (by simp) fw ha st⟩, ⟨.emp, fun st => c37s [] (by simp) fw st⟩, rfl, fun v hv => (by cases hv), by simp, fun h => ?_⟩
    rw [atT] at h; simp only at h; omega
  | [i], hw, ha =>
    obtain ⟨d, hi, hd, e⟩ := at_cons ha
    obtain ⟨s, hs⟩ := dok _ d hd
    refine ⟨[], [], ⟨.nil, fun st => c33s [i] (by simp) fw ha st⟩, ⟨.emp, fun st => c37s [i] (by simp) fw st⟩, rfl, fun v hv => (by cases hv), by simp, fun h => ?_⟩
    rw [e] at ha h
    exact absurd h (decl_below hd hs [] (fun _ j w' q => by cases q) ha)
  | i :: j :: w, hw, ha =>
    obtain ⟨d, hi, hd, e⟩ := at_cons ha
    obtain ⟨s, hs⟩ := dok _ d hd
    by_cases hn : d.k ≠ 33 ∨ j ≠ 2
    · refine ⟨[], [], ⟨.nil, fun st => c33n i j w (by simp at hw; omega) d hi hd hn fw ha st⟩, ⟨.emp, fun st => c37n i j w d hi hd hn fw st⟩, rfl, fun v hv => (by cases hv), by simp, fun h => ?_⟩
      rw [e] at ha h
      refine absurd h (decl_below hd hs (j :: w) (fun h33 j' w' q => ?_) ha)
      cases q
      rcases hn with h | h
      · exact absurd h33 h
      · exact h
    · simp only [not_or, Classical.not_not] at hn
      obtain ⟨h33, rfl⟩ := hn
      unfold declE at hs
      rw [if_pos h33] at hs
      obtain ⟨p, r, b, hl, hp, hpp, hb, hh, _, ss, hbk⟩ := fn_ok hs
      obtain ⟨hlt, hdi⟩ := List.getElem?_eq_some_iff.1 hd
      have hmd := List.mem_of_getElem? hd
      have gd := good_mem gm hmd
      have hcd := cntTs_mem hmd
      have gp := good_mem gd (by rw [hl]; simp : p ∈ d.l)
      have hcs : cntT p + cntT r + cntT b < cntT d := by rw [cntT_eq d, hl]; simp [cntTs]; omega
      have hpl : p.l.length ≤ cntT p := by have := cntT_eq p; have := cntTs_len p.l; omega
      have hab : (atT b w).2 = true ∧ atT m (i :: 2 :: w) = atT b w := by
        rw [e] at ha
        obtain ⟨x, _, hx, e2⟩ := at_cons ha
        rw [hl] at hx
        have : x = b := by
          have q : (2 : Int).toNat = 2 := rfl
          rw [q] at hx
          simpa using hx.symm
        subst this
        rw [e, e2]
        rw [e2] at ha
        exact ⟨ha, rfl⟩
      obtain ⟨ha2, e2⟩ := hab
      have gty := fn_good gp hpp
      have hbd := (st_below (m := m) (ret := r) w).2 b ss (p.l.map tyOf) (p.l.map tyOf) hb hbk (Alk.refl _) ha2
      have gb := good_mem gd (by rw [hl]; simp : b ∈ d.l)
      obtain ⟨f1, q1⟩ := c33f gm i w (by simp at hw; omega) d p r b hi hd h33 hl _ hh gty (by simp; omega) ha ha2 fw
      obtain ⟨f2, q2⟩ := c37f gm (by omega) i w d p r b hi hd h33 hl hpp (by omega) ha2 fw
      have hg := belowT_good gm w b (p.l.map tyOf) gb gty ha2 (n := 900000) (by simp; omega)
      refine ⟨_, _, ⟨f1, q1⟩, ⟨f2, q2⟩, hbd.1, hg.1, by have := hg.2; omega, fun h => ?_⟩
      rw [e2] at h ⊢
      rw [← hbd.1.len]
      exact hbd.2 h

/-- THE LAW. -/
theorem ev9 (m : Tm) (hm : m.ok) (fw : Fl) (w : List Int) (hw : w.length ≤ 9223372036854775807) : ev T 9 [encT m, slE 1 fw (encW w)] [] = some (.bool true, []) := by
  have q29 := c29
  obtain ⟨b, h1, h2⟩ := c18 m hm []
  have go : Ret (ev T 9 [encT m, slE 1 fw (encW w)] []) fun r st' => (r, st') = (.bool true, []) := by
    refine Ret_wp (fn := F9) rfl ?_
    rw [F9]
    cases b with
    | true => simp [← encT_eq, h1, q29, splice]
    | false =>
      have hc := h2 rfl
      have hcm := cntT_eq m
      have hml := cntTs_len m.l
      by_cases hl : w.length ≤ 100
      case neg =>
        have hl' : 100 < w.length := by omega
        have hl2 : (100 : Int) < w.length := by omega
        simp [← encT_eq, h1, q29, splice, hl', hl2]
      have hl' : ¬ 100 < w.length := by omega
      have hl2 : ¬ (100 : Int) < w.length := by omega
      have gm := good_of m hm (by omega)
      have q32 := fun st => c32 gm (by omega) (by omega) st
      cases hr : rightE m with
      | false =>
        rw [hr] at q32
        simp [← encT_eq, h1, q29, splice, hl', hl2, q32]
      | true =>
        rw [hr] at q32
        have q34 := fun st => c34 m w fw st
        cases ha : (atT m w).2 with
        | false =>
          rw [ha] at q34
          have q33 := fun st => c33l w (by omega) fw ha st
          simp [← encT_eq, h1, q29, splice, hl', hl2, q32, q33, q34]
        | true =>
          rw [ha] at q34
          have q35 := fun st => c35 m w fw st ha
          obtain ⟨L1, L2, ⟨f1, q33⟩, ⟨f2, q37⟩, A, G, hb, h7⟩ := tells_at gm hc hr fw w hl ha
          have q36 := fun st => c36 f1 f2 L1 L2 G hb st
          rw [alk_alike L1 L2 A.symm] at q36
          generalize atT m w = R at *
          obtain ⟨t, b⟩ := R
          simp only at q35 h7
          by_cases k7 : t.k = 7
          · have hn := h7 k7
            have hn' : ¬ (L1.length : Int) ≤ t.n := by omega
            simp [← encT_eq, h1, q29, splice, hl', hl2, q32, q33, q34, q35, q36, q37, k7, hn', fillD]
          · simp [← encT_eq, h1, q29, splice, hl', hl2, q32, q33, q34, q35, q36, q37, k7, fillD]
  obtain ⟨r, st', h, e⟩ := go
  rw [h, e]
end Go.Nt.Ty
