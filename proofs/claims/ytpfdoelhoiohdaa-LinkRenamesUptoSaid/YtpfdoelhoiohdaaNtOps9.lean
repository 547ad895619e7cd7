/-
  MORE OPERATIONS: a field of a value, made slices.
  No condition: lemmas.
-/
import Derived.Test.YtpfdoelhoiohdaaNtOps8
import Derived.Laws.MakeOwn
namespace Go.Nt

variable {P : Program} {X : Cx} {c : Cfg} {bl : Bl} {lb : Nat → Nat} {a : Act} {w : World}

/-- A part of a compound value. -/
theorem part_val {N : Nat → Prop} {st : St} {t : TypeId} {vs : Array Value} {cs : List D} {off : Nat} {n : Option Nat} {d : D} (hs : shapeOK P t n = true) (hr : Rep w N st bl (.agg vs) (.agg cs)) (hp : part cs off n = some d) :
    ∃ v, (Go.part t vs off).run P w = .ok v w ∧ Rep w N st bl v d := by
  obtain ⟨h1, h2⟩ := shape_run hs w
  cases hr with
  | agg _ _ hl hc h =>
    cases n with
    | none =>
      simp only [part] at hp
      have hi : off < vs.size := by rw [hl]; exact (List.getElem?_eq_some_iff.1 hp).1
      have hv : vs[off]? = some vs[off] := by simp [hi]
      exact ⟨vs[off], by simp [Go.part, h1, hv], h off _ d hv hp⟩
    | some k =>
      simp only [part] at hp
      split at hp
      · rename_i hle
        simp at hp; subst hp
        refine ⟨.agg (vs.extract off (off + k)), by simp [Go.part, h1, h2], .agg _ _ (by simp; omega) (fun i d hd => ?_) (fun i v d hv hd => ?_)⟩
        · rw [List.getElem?_take] at hd
          split at hd
          · rw [List.getElem?_drop] at hd; exact hc _ d hd
          · simp at hd
        · rw [List.getElem?_take] at hd
          split at hd
          · rename_i hik
            rw [List.getElem?_drop] at hd
            refine h (off + i) v d ?_ hd
            rw [Array.getElem?_extract] at hv
            split at hv
            · exact hv
            · simp at hv
          · simp at hd
      · simp at hp

theorem sim_fld (C : CR X c bl lb a w) {o : Oper} {t : TypeId} {x : Operand} {x' : Opd} {f off : Nat} {n : Option Nat} (ho : o.op = .field t x f) (h1 : opdOK x x' = true) (hf : fieldOK P t f off n = true) {cs : List D}
    (hx : x'.ev c.1.s = .agg cs) {d : D} (hd : part cs off n = some d) : GivesV P X c bl lb a w o d := by
  have r := opd_rep C h1
  rw [hx] at r
  have he : execOp a.eval o = (do pure (.value (← Instr.field t (a.eval x) f))) := by simp [execOp, ho]
  generalize a.eval x = y at *
  have r' : RR X c bl lb w y (.agg cs) := r
  unfold fieldOK at hf
  split at hf
  · rename_i fs hu
    split at hf
    · rename_i fd hfd
      simp only [Bool.and_eq_true, beq_iff_eq] at hf
      obtain ⟨rfl, hs, _⟩ := hf
      cases r' with
      | agg vs ds hl hc h =>
        obtain ⟨v, hv, hr⟩ := part_val (P := P) hs (.agg vs cs hl hc h) hd
        exact gv hr (by rw [he]; simp [Instr.field, run_underlying hu, hfd, asAgg, hv])
    · simp at hf
  · simp at hf

/-- What a made slice holds. -/
def madeOK (P : Program) (t : TypeId) (sz : Nat) (zero : D) : Bool :=
  match P.underlying t with
  | some (.slice e) => zeroOK P e zero && (zero.pure && zero.cells.length == sz)
  | _ => false

theorem sim_mksl (C : CR X c bl lb a w) {o : Oper} {t : TypeId} {x y : Operand} {x' y' : Opd} {sz d : Nat} {zero : D} (ho : o.op = .makeSlice t x y) (hdst : o.dst = some d) (hdn : d < X.n) (ht : sliceT P t sz = true) (hz : madeOK P t sz zero = true)
    (h1 : opdOK x x' = true) (h2 : opdOK y y' = true) {k k' : IntKind} {n m : Int} (hx : x'.ev c.1.s = .int k n) (hy : y'.ev c.1.s = .int k' m) (hb : 0 ≤ n ∧ n ≤ m ∧ m ≤ most)
    {K : Act → World → Prop} {Q : Exit → Act → World → Prop} (hK : ∀ a' w', RelC X (apply c (some d) (.rs c.2.length 0 sz 0 n.toNat (n == m), none, some (c.2 ++ [.cells false sz 0 0 false (List.replicate n.toNat zero)]))) a' w' → K a' w') : o.wp P a w K Q := by
  have ex := sr_int C h1 hx
  have ey := sr_int C h2 hy
  unfold sliceT at ht
  unfold madeOK at hz
  split at ht
  · rename_i e hu
    simp only [hu, Bool.and_eq_true, decide_eq_true_eq, beq_iff_eq] at ht hz
    obtain ⟨⟨⟨hs, hz0⟩, hpos, hle⟩, hby⟩ := ht
    obtain ⟨hzo, hzp, hzl⟩ := hz
    unfold sizeOK at hs
    obtain ⟨z, hzr, hzc⟩ := zero_run hzo w
    cases hi : P.info? e with
    | none => simp [hi] at hs
    | some ie =>
      simp [hi] at hs hby
      cases hzz : ie.zero with
      | none => simp [hi, hzz] at hz0
      | some z1 =>
        have hz1 : z1 = z := by simpa [zeroValue, typeInfo, hi, hzz] using hzr
        subst hz1
        simp [hi, hzz] at hz0
        subst hs
        have hm : m ≤ 4194304 := by have h3 := hb.2.2; have h4 : most = 4194304 := rfl; omega
        have hbytes : (ie.bytes : Int) * m ≤ 281474976710656 := by
          have : (ie.bytes : Int) * m ≤ 65536 * 4194304 := Int.mul_le_mul (by omega) hm (by omega) (by omega)
          omega
        have hrun := run_make (P := P) w t e ie z1 hu hi hzz k k' n m hb.1 hb.2.1 hbytes (by omega)
        have A := alloc_al w (.cells (madeCells z1.cells (m.toNat * ie.size)) e)
        have hAs := A.size
        have E := (new_ext C.heap A (.cells false ie.size 0 0 false (List.replicate n.toNat zero))).ext (L := X.LL c.1.b lb)
        have hels : Els (w.alloc (.cells (madeCells z1.cells (m.toNat * ie.size)) e)) (NN (X.LL c.1.b lb) (c.2 ++ [.cells false ie.size 0 0 false (List.replicate n.toNat zero)]) (fun i => if i = c.2.length then w.heap.size else bl i))
            (c.2 ++ [.cells false ie.size 0 0 false (List.replicate n.toNat zero)]) (fun i => if i = c.2.length then w.heap.size else bl i) ie.size (List.replicate n.toNat z1) (List.replicate n.toNat zero) := by
          refine ⟨by simp, fun i u q hu hq => ?_⟩
          have e1 := (List.mem_replicate.1 (List.mem_of_getElem? hu)).2
          have e2 := (List.mem_replicate.1 (List.mem_of_getElem? hq)).2
          subst e1 e2
          exact ⟨const_rep hzc, hzp, hzl⟩
        have hnm : n.toNat ≤ m.toNat := by omega
        have C' := C.objNew (ob := .cells false ie.size 0 0 false (List.replicate n.toNat zero)) A
          ⟨madeCells z1.cells (m.toNat * ie.size), e, 0, 0, A.new, fun _ _ _ => by omega, ⟨by rw [size_madeCells, List.length_replicate]; exact Nat.mul_le_mul_right _ hnm, tag_zero⟩,
            els_ob hpos hels _ fun q hq => by
              rw [List.length_replicate] at hq
              have hq' : q < m.toNat * ie.size := Nat.lt_of_lt_of_le hq (Nat.mul_le_mul_right _ hnm)
              rw [Great.flat_get hpos _ hels.sizes, List.getElem?_replicate, if_pos ((Nat.div_lt_iff_lt_mul hpos).2 hq)]
              have hmod : q % ie.size < z1.cells.size := by rw [hz0]; exact Nat.mod_lt _ hpos
              simp only [madeCells, Array.getElem?_map, Array.getElem?_range, hq', if_true, Option.map_some, Option.bind_some, hz0]
              rw [getElem!_pos z1.cells _ hmod]; exact (Array.getElem?_eq_getElem hmod).symm⟩
        refine wp_val (v := .slice (some ⟨w.heap.size, 0, none⟩) n.toNat m.toNat) (w' := w.alloc (.cells (madeCells z1.cells (m.toNat * ie.size)) e)) (by simp only [execOp, ho, ex, ey, Sem.run_bind, hrun, Result.andThen_ok, Sem.run_pure]) (hK _ _ ?_)
        rw [hdst, apply_heap]
        refine ⟨_, _, C'.put (fun d' e' => by cases e'; exact hdn) fun _ => Rep.slot _ _ ?_⟩
        refine .rs _ _ _ _ _ _ _ _ (by simp) (by simp) (by omega) (fun h => by rw [eq_of_beq h]) fun _ => ⟨fun _ => by simp, _, e, (0, 0), by simp only [↓reduceIte]; exact A.new, by simp [size_madeCells]⟩
  · simp at ht

end Go.Nt
