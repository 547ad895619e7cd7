/-
  RIGHT MODULES: the program's locals at a way, walked (3).
  No condition.
-/
import Derived.Test.YtgmjghgpcjjeeaaGreatRlX4
import Derived.Test.YtgmjghgpcjjeeaaGreatRlWj
set_option linter.unusedSimpArgs false
set_option maxRecDepth 20000
namespace Go.Nt.Ty
open Go Go.Nt

variable {m : Tm}

/-- The object of the locals, frozen. -/
theorem LocW.fz1 {st : St} {lv : D} {locs : List Tm} (h : LocW st lv locs) : ∃ fl st', Nt.fz1 st lv = some (slE 6 fl (encTs locs), st') := by
  rcases h with ⟨rfl, rfl⟩ | ⟨id, ver, md, full, more, rfl, h1, _, h3, _⟩
  · exact ⟨.nil, st, rfl⟩
  · have e : List.take locs.length (encTs (locs ++ more)) = encTs locs := by rw [encTs_append, List.take_append_of_le_length (by simp), List.take_of_length_le (by simp)]
    refine ⟨if full then .full else .part, List.set st id (.cells false 6 ver (md + 1) true (encTs (locs ++ more))), ?_⟩
    cases full <;> simp [Nt.fz1, fz0, h1, e, slE]

theorem c33l (w : List Int) (hw : w.length ≤ 1000000) (fw : Fl) (ha : (atT m w).2 = false) (st : St) : callD T (ev T) 33 [encT m, slE 1 fw (encW w)] st = some (.tup [.nils, .bool false], st) := by
  have q := fun st => c71 w hw fw m st
  rw [ha, at_T0 w m ha] at q
  refine callD_pureR (fn := F33) rfl rfl (by simp) (by simp) ?_
  refine Ret_wp (fn := F33) rfl ?_
  rw [F33]
  simp only [encT_0] at q
  simp [← encT_eq m, q, splice, fillD]

theorem c33s (w : List Int) (hw : w.length < 2) (fw : Fl) (ha : (atT m w).2 = true) (st : St) : callD T (ev T) 33 [encT m, slE 1 fw (encW w)] st = some (.tup [.nils, .bool true], st) := by
  have q := fun st => c71 w (by omega) fw m st
  rw [ha] at q
  refine callD_pureR (fn := F33) rfl rfl (by simp) (by simp) ?_
  refine Ret_wp (fn := F33) rfl ?_
  rw [F33]
  match w, hw with
  | [], _ => simp at q; simp [← encT_eq m, q, splice, fillD]
  | [i], _ => simp at q; simp [← encT_eq m, q, splice, fillD]

theorem c33n (i j : Int) (w : List Int) (hw : w.length ≤ 1000) (f : Tm) (hi : 0 ≤ i) (hf : m.l[i.toNat]? = some f) (h : f.k ≠ 33 ∨ j ≠ 2) (fw : Fl) (ha : (atT m (i :: j :: w)).2 = true) (st : St) : callD T (ev T) 33 [encT m, slE 1 fw (encW (i :: j :: w))] st = some (.tup [.nils, .bool true], st) := by
  have q := fun st => c71 (i :: j :: w) (by simp; omega) fw m st
  rw [ha] at q
  obtain ⟨a, rfl⟩ : ∃ a : Nat, i = a := ⟨i.toNat, by omega⟩
  simp only [Int.toNat_natCast] at hf
  obtain ⟨hlt, e⟩ := List.getElem?_eq_some_iff.1 hf
  have hn : ¬ ((w.length : Int) + 1 + 1 < 2) := by omega
  refine callD_pureR (fn := F33) rfl rfl (by simp) (by simp) ?_
  refine Ret_wp (fn := F33) rfl ?_
  rw [F33]
  simp only [List.map_cons] at q
  by_cases hk : f.k = 33
  · have hj : ¬ j = 2 := h.resolve_left (fun q => q hk)
    simp [← encT_eq m, q, splice, fillD, hn, hlt, e, hk, hj]
  · simp [← encT_eq m, q, splice, fillD, hn, hlt, e, hk]

theorem Lk_first (m : Tm) : Lk m T0 [lkO m .nils T0 0 0 0] .nils [] 0 0 := ⟨by simp, ⟨0, rfl⟩, .inl ⟨rfl, rfl⟩⟩

theorem c33f (gm : good m) (i : Int) (w : List Int) (hw : w.length ≤ 1000) (f p r b : Tm) (hi : 0 ≤ i) (hf : m.l[i.toNat]? = some f) (hk : f.k = 33) (hl : f.l = [p, r, b]) (tys : List Tm) (hh : headT m f = .ok tys) (gty : Good tys) (hct : tys.length + cntT b ≤ 900000) (ha : (atT m (i :: 2 :: w)).2 = true) (hb : (atT b w).2 = true) (fw : Fl) :
    ∃ fl', ∀ st, callD T (ev T) 33 [encT m, slE 1 fw (encW (i :: 2 :: w))] st = some (.tup [slE 6 fl' (encTs (belowT m tys b w)), .bool true], st) := by
  have q := fun st => c71 (i :: 2 :: w) (by simp; omega) fw m st
  rw [ha] at q
  obtain ⟨a, rfl⟩ : ∃ a : Nat, i = a := ⟨i.toNat, by omega⟩
  simp only [Int.toNat_natCast] at hf
  obtain ⟨hlt, e⟩ := List.getElem?_eq_some_iff.1 hf
  have hn : ¬ ((w.length : Int) + 1 + 1 < 2) := by omega
  have gf : good f := by rw [← e]; exact good_mem gm (List.getElem_mem hlt)
  have gb := good_mem gf (by rw [hl]; simp : b ∈ f.l)
  obtain ⟨st1, q1, lv1, W1, K1⟩ := c72 gm f gf (Lk_first m)
  rw [hh] at K1
  simp only at K1
  have go : Ret (ev T 33 [encT m, slE 1 fw (encW (((a : Nat) : Int) :: 2 :: w))] []) fun r st' => ∃ fl' st2, fz st' r = some (.tup [slE 6 fl' (encTs (belowT m tys b w)), .bool true], st2) := by
    refine Ret_wp (fn := F33) rfl ?_
    rw [F33]
    simp only [List.map_cons] at q
    have q1 : callD T (ev T) 72 [.hp 0 0 15 0 0, encT f] [.cells true 15 0 0 false [.agg [.int .i64 m.k, .int .i64 m.n, .str m.s, slE 6 m.fl (encTs m.l), .int .i64 m.a, .int .i64 m.b, .nils, .int .i64 0, .int .i64 0, .str [], .nils, .int .i64 0, .int .i64 0, .int .i64 0, .int .i64 0]]] = some (.tup [], st1) := q1
    have lo := fun fw s bx => l33a gm fw w (by omega) w.length 0 b tys s bx st1 lv1 (by omega) (by omega) gb gty hct (by simpa using hb) K1
    simp only [List.drop_zero] at lo
    simp [← encT_eq m, q, splice, fillD, hn, hlt, e, hk, hl, slE_tail2, q1]
    refine WL.useB L33_0_p L33_0_w (WB := L33_0.wrB) rfl (lo (fw.sub (.int .i64 (a : Int) :: .int .i64 2 :: List.map (.int .i64) w)) _ _ ?_ ?_ ?_ ?_ ?_ ?_) ?_
    iterate 6 simp
    rintro e s' b' st' ⟨rfl, lv', K'⟩ hf hbx
    have e8 := hf 8 rfl
    simp at e8
    obtain ⟨md, k0⟩ := K'.h0
    obtain ⟨x1, x2, x3, x4⟩ := K'.hw.facts
    obtain ⟨fl', st2, f1⟩ := K'.hw.fz1
    simp [e8, k0, lkO, kHs, splice, x1, x2, x3, fz, fzL, f1]
    exact ⟨fl', rfl⟩
  obtain ⟨r, st', h1, fl', st2, h2⟩ := go
  exact ⟨fl', fun st => callD_pure (fn := F33) rfl rfl (by simp) h1 h2 (by simp)⟩
end Go.Nt.Ty
