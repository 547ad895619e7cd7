/-
  DOES A VALUE FIT A TYPE: package value's answer.
-/
import Derived.Test.YtknicjakdopilaaTmFits
set_option linter.unusedSimpArgs false
namespace Go.Nt.Va
open Go Go.Nt

def fitsV (m t : Tm) (v : V) : Bool := if cellsV m t = 0 then false else fArr (fRec m (m.l.length + 1)) t v

theorem cellsV_in (m t : Tm) : 0 ≤ cellsV m t ∧ cellsV m t ≤ 64 := arrM_in _ (recM_in m _) t

theorem c18 (m t : Tm) (v : V) (hm : m.ok) (ht : t.ok) (hv : v.ok) (hb : m.l.length ≤ 1000000) (hb2 : ∀ d, d ∈ m.l → d.l.length ≤ 1000000) (st : St) :
    callD T (ev T) 18 [encT m, encT t, encV v] st = some (.bool (fitsV m t v), st) := by
  have h26 := c26 m t hm hb ht []
  have hin := cellsV_in m t
  refine callD_pure (fn := F18) (r := .bool (fitsV m t v)) (st1 := []) (st2 := []) rfl rfl (by simp) ?_ (by simp) (by simp)
  rw [ev_eq 18 F18 rfl, F18]
  unfold fitsV
  by_cases h : cellsV m t = 0
  · simp [← encT_eq, ← encV_eq, h26, h]
  · have h' : 0 < cellsV m t := by omega
    have h29 := c29 m hm hb2 (m.l.length + 1) t ht h v hv []
    simp [← encT_eq, ← encV_eq, h26, h, h', h29]

end Go.Nt.Va
