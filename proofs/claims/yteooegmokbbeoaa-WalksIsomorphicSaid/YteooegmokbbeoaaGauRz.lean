/- A pair of small numbers that is handed in. -/
import Derived.Test.YteooegmokbbeoaaGauRx
import Derived.OpenShut
set_option linter.unusedVariables false
set_option linter.unusedSimpArgs false
set_option maxRecDepth 100000
namespace Go.AM
open Go Go.Proofs Go.ChangeShapes Go.WideShapes Go.ChangeAt Go.RowKit
section
variable {H : Type} {enc : TypeId × Value → H} {W : World} {base : Nat} {hd : Bool} {v : Value} {d : DataW H} {p : List MemPlace}
theorem Yed (hv : Value.okWide Try.prog W .any base 70 v) (h : DataW.Trod enc Try.prog W 0 (fun _ => true) hd 70 v d p) :
    ∃ (a b : Nat), a < 256 ∧ b < 256 ∧ RV (bare fmS fun b => W.heap[b]?) (.agg [.int .u8 a, .int .u8 b]) v := by
  have hC : Try.prog.cellsOf 70 = 2 := by kernel_rfl
  have hC5 : Try.prog.cellsOf 5 = 1 := by kernel_rfl
  obtain ⟨cs, rfl, hsz⟩ : ∃ cs, v = .agg cs ∧ cs.size = Try.prog.cellsOf 70 := by
    simp only [Value.okWide, Try.underlying70] at hv
    obtain ⟨cs, h1, h2, _⟩ := hv
    exact ⟨cs, h1, h2⟩
  rw [hC] at hsz
  obtain ⟨fuel, hf⟩ := h
  obtain ⟨xs, n, rfl, _, hl, hxl, hx⟩ := DataW.trod_array Try.underlying70 hf
  obtain ⟨l⟩ := cs
  simp only [List.size_toArray] at hsz
  obtain ⟨c0, c1, rfl⟩ : ∃ c0 c1, l = [c0, c1] := by
    match l, hsz with
    | [c0, c1], _ => exact ⟨c0, c1, rfl⟩
  have h0 := hx 0 (by decide)
  have h1 := hx 1 (by decide)
  simp only [Value.cells, hC5, Nat.mul_one, List.drop_zero, List.drop_succ_cons, List.take_succ_cons, List.take_zero] at h0 h1
  have g0 : ∃ y, xs[0]? = some y := ⟨_, List.getElem?_eq_getElem (by omega)⟩
  have g1 : ∃ y, xs[1]? = some y := ⟨_, List.getElem?_eq_getElem (by omega)⟩
  obtain ⟨y0, g0⟩ := g0
  obtain ⟨y1, g1⟩ := g1
  rw [g0] at h0
  rw [g1] at h1
  obtain ⟨n0, e0, _, w0⟩ := DataW.trod_int Try.underlying5 h0
  obtain ⟨n1, e1, _, w1⟩ := DataW.trod_int Try.underlying5 h1
  simp only [List.cons.injEq, and_true] at e0 e1
  obtain ⟨a, rfl, ha⟩ := wf_u w0
  obtain ⟨b, rfl, hb⟩ := wf_u w1
  subst e0; subst e1
  refine ⟨a, b, ha, hb, ?_⟩
  have hl := Zfh (RV.int (X := bare fmS fun b => W.heap[b]?) .u8 a) (Zfh (RV.int .u8 b) Zwd)
  refine .agg _ _ hl.1 ?_ (fun i a b ha hb => hl.2 i a b ha (by simpa using hb))
  intro i a ha
  match i, ha with
  | 0, ha => simp at ha; subst ha; rfl
  | 1, ha => simp at ha; subst ha; rfl
  | i + 2, ha => simp at ha
end
end Go.AM
