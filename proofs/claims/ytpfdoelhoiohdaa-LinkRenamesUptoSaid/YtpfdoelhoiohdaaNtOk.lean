/-
  A FUNCTION OF THE PROGRAM AND ITS ANNOTATED FORM, as one truth for the kernel.
  No condition.
-/
import Derived.Test.YtpfdoelhoiohdaaNtMain
import Derived.KernelRfl
namespace Go.Nt

def okB (P : Program) (f : Nat) (ifn : IFunc) : Bool :=
  match P.funcs[f]? with
  | none => false
  | some fn => match fn.body with
    | none => false
    | some code => !(fn.name == "runtime.NumGoroutine") && (codeOK P fn.ntmps code ifn.code && resOK P fn.results.toList ifn.res)

theorem okB_ok {P : Program} {f : Nat} {ifn : IFunc} (h : okB P f ifn = true) : FuncOK P f ifn := by
  unfold okB at h
  split at h
  · simp at h
  · next fn h1 =>
    split at h
    · simp at h
    · next code h2 =>
      simp only [Bool.and_eq_true, Bool.not_eq_true'] at h
      exact .inl ⟨fn, code, h1, h2, h.1, h.2.1, h.2.2⟩

abbrev g0 (io : Io) : Gi := ⟨none, io⟩
abbrev g1 (s : Nat) (w : Bool) (io : Io) : Gi := ⟨some (s, w), io⟩

end Go.Nt
