/-
  THE REFERENCE'S PARSER, walked (17): the declarations of a text.
  No condition.
-/
import Derived.Test.YtpfdoelhoiohdaaSpDec4
import Derived.Test.YtpfdoelhoiohdaaSpEnd
set_option linter.unusedSimpArgs false
set_option maxRecDepth 20000
namespace Go.Nt.Lk
open Go Go.Nt

variable {l : List Tok} {fl : Fl}

abbrev z6 : List D := [.int .i64 0, .int .i64 0, .str [], .nils, .int .i64 0, .int .i64 0]

def Q12 (l : List Tok) (g : Gl) (e : Ex) (s' : List D) (b' : List (Nat × List D)) (st' : St) : Prop :=
  (e = .ret ∧ getB b' 2 = (1, z6) ∧ ¬ g.e = 0 ∧ get s' 3 = .int .i64 (nowT l g.a).f ∧ get s' 4 = .int .i64 g.e) ∨ (e = .exit 0 ∧ getB b' 2 = (1, z6) ∧ g.e = 0 ∧ RawX 6 st' (get s' 8) (encTs g.ts))

theorem l12 (E : Ended l) (hl : l.length ≤ 100000) :
    ∀ (k a : Nat) (out : List Tm) (L : D) (s : List D) (bx : List (Nat × List D)) (st : St), a < l.length → l.length - a < k → RawX 6 st L (encTs out) → out.length ≤ a →
      get s 5 = toksD fl l → get s 2 = .lp 2 1 0 → getB bx 2 = (1, z6) → get s 8 = L → get s 9 = .int .i64 a →
    Stops (lp T L12_0 ⟨⟨s, bx⟩, st⟩) fun e s' b' st' => Q12 l (declsP l k a out) e s' b' st' := by
  intro k
  induction k with
  | zero => intro a out L s bx st _ hm; omega
  | succ k ih =>
    intro a out L s bx st ha hm R ho g5 g2 b2 g8 g9
    rw [declsP]
    refine Stops_wp L12_0.eq_1 ?_
    obtain ⟨r1, r2, r3, r4⟩ := R.facts
    have wl : IntKind.wrap .i64 ((l.length : Int) - 1) = ((l.length - 1 : Nat) : Int) := by rw [wrap64] <;> omega
    by_cases h : a + 1 < l.length
    case neg =>
      rw [if_pos h]
      have c1 : ¬ (a : Int) < ((l.length - 1 : Nat) : Int) := by omega
      have c2 : ¬ a < l.length - 1 := by omega
      simp [g5, g2, b2, g8, g9, wl, c1, c2, Q12]
      exact R
    rw [if_neg (fun c => c h)]
    have c1 : (a : Int) < ((l.length - 1 : Nat) : Int) := by omega
    have c2 : a < l.length - 1 := by omega
    have q := c35 (fl := fl) E hl a st ha
    have ok := declP_ok E ha
    generalize declP l a = y at *
    by_cases hy : y.e = 0
    case neg =>
      rw [if_pos hy]
      obtain ⟨_, y2⟩ := ok.2 hy
      have hx := tokAt l fl y.a y2
      simp [g5, g2, b2, g8, g9, wl, c1, c2, q, hy, hx, splice, fillD, Q12]
    rw [if_neg (fun c => c hy)]
    obtain ⟨y1, y2⟩ := ok.1 hy
    obtain ⟨L2, st2, a2, R2, _⟩ := rawApp R (by omega) y.t
    have nx := fun s' bx' => ih y.a (out ++ [y.t]) L2 s' bx' st2 y2 (by omega) R2 (by simp; omega)
    generalize declsP l k y.a (out ++ [y.t]) = G at *
    simp [g5, g2, b2, g8, g9, wl, c1, c2, q, hy, r1, r2, r3, ← encT_eq, a2, splice, fillD, -Int.natCast_add]
    refine nx _ _ ?_ ?_ ?_ ?_ ?_
    iterate 5 simp [g5, g2, b2]
end Go.Nt.Lk
