/-
  HOW DEEP A TERM IS, by the reference.
  No condition.
-/
import Derived.Test.YtpfdoelhoiohdaaSpGot
import Derived.Test.YtpfdoelhoiohdaaSpNone
set_option linter.unusedSimpArgs false
namespace Go.Nt.Lk
open Go Go.Nt

def depT : Tm → Nat
  | .mk _ _ _ _ l _ _ => (l.map depT).foldl max 0 + 1
theorem depT_eq (t : Tm) : depT t = (t.l.map depT).foldl max 0 + 1 := by cases t; simp [depT, Tm.l]
theorem foldl_le : ∀ (l : List Tm) (n b : Nat), n ≤ b → (∀ x, x ∈ l → depT x ≤ b) → (l.map depT).foldl max n ≤ b
  | [], n, b, h, _ => h
  | x :: l, n, b, h, hl => by
    simp only [List.map_cons, List.foldl_cons]
    exact foldl_le l _ b (by have := hl x (by simp); omega) fun y hy => hl y (by simp [hy])
theorem dep_cnt (t : Tm) : depT t ≤ cntT t := by
  induction t using Tm.ind with
  | h t ih =>
    rw [depT_eq, cntT_eq]
    have := foldl_le t.l 0 (cntTs t.l) (by omega) fun x hx => Nat.le_trans (ih x hx) (cntTs_mem hx)
    omega

theorem l36 (t : Tm) (hb : cntT t ≤ 1000000) (hc : ∀ u, u ∈ t.l → ∀ st, callD T (ev T) 36 [encT u] st = some (.int .i64 (depT u), st)) :
    ∀ (r i n : Nat) (s : List D) (bx : List (Nat × List D)) (st : St), r = t.l.length - i → i ≤ t.l.length → get s 1 = .lp 1 1 0 → getB bx 1 = (1, [.int .i64 t.k, .int .i64 t.n, .str t.s, slE 6 t.fl (encTs t.l), .int .i64 t.a, .int .i64 t.b]) → get s 3 = .int .i64 n → get s 4 = .int .i64 i →
    Stops (lp T L36_0 ⟨⟨s, bx⟩, st⟩) fun e s' _ _ => e = .exit 0 ∧ get s' 3 = .int .i64 (((t.l.drop i).map depT).foldl max n : Nat) := by
  intro r
  induction r with
  | zero =>
    intro i n s bx st hr hi h1 b1 h3 h4
    have e : i = t.l.length := by omega
    refine Stops_wp L36_0.eq_1 ?_
    rw [e, List.drop_length]
    simp [h1, b1, h3, h4, e]
  | succ r ih =>
    intro i n s bx st hr hi h1 b1 h3 h4
    have hlt : i < t.l.length := by omega
    have hcl := cntTs_len t.l
    have hct := cntT_eq t
    have hw : IntKind.wrap .i64 ((i : Int) + 1) = ((i + 1 : Nat) : Int) := by rw [wrap64] <;> omega
    have q := hc _ (List.getElem_mem hlt) st
    have nx := fun n' s' bx' => ih (i + 1) n' s' bx' st (by omega) (by omega)
    rw [List.drop_eq_getElem_cons hlt, List.map_cons, List.foldl_cons]
    refine Stops_wp L36_0.eq_1 ?_
    generalize hd : depT t.l[i] = d at *
    generalize (t.l.drop (i + 1)).map depT = tl at *
    by_cases hg : n < d
    · have e : max n d = d := by omega
      have hg' : (n : Int) < d := by omega
      rw [e]
      have nx := nx d
      generalize tl.foldl max d = W at *
      simp [h1, b1, h3, h4, hlt, hw, ← encT_eq, q, hg, hg', splice, fillD, -Int.natCast_add]
      refine nx _ _ ?_ ?_ ?_ ?_ <;> simp [h1, b1]
    · have e : max n d = n := by omega
      have hg' : ¬ (n : Int) < d := by omega
      rw [e]
      have nx := nx n
      generalize tl.foldl max n = W at *
      simp [h1, b1, h3, h4, hlt, hw, ← encT_eq, q, hg, hg', splice, fillD, -Int.natCast_add]
      refine nx _ _ ?_ ?_ ?_ ?_ <;> simp [h1, b1, h3]

theorem c36 (t : Tm) : cntT t ≤ 1000000 → ∀ st, callD T (ev T) 36 [encT t] st = some (.int .i64 (depT t), st) := by
  induction t using Tm.ind with
  | h t ih =>
    intro hb st
    have hct := cntT_eq t
    refine callD_pureQ (fn := F36) rfl rfl (by simp) (by simp) (by intro; rfl) ?_
    refine Ret_wp (fn := F36) rfl ?_
    rw [F36]
    have lo := fun s bx st => l36 t hb (fun u hu st => ih u hu (by have := cntTs_mem hu; omega) st) t.l.length 0 0 s bx st (by omega) (by omega)
    rw [List.drop_zero] at lo
    have hd := dep_cnt t
    rw [depT_eq] at hd ⊢
    generalize (t.l.map depT).foldl max 0 = m at *
    have hw : IntKind.wrap .i64 ((m : Int) + 1) = ((m + 1 : Nat) : Int) := by rw [wrap64] <;> omega
    simp [splice, fillD]
    refine WL.use L36_0_p L36_0_w (lo _ _ _ ?_ ?_ ?_ ?_) ?_
    iterate 4 simp
    rintro e s' b' st' ⟨rfl, h3⟩ hf
    simp [h3, hw]
end Go.Nt.Lk
