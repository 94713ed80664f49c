/- The statement WalksIsomorphic holds of the given program, for every two machines of numbers and every exchange: it returns true and leaves its arguments as they were. Conditions: none beyond the given row's own cells. -/
import Derived.Test.YteooegmokbbeoaaGauRz
import Derived.Test.YteooegmokbbeoaaGauMj
set_option linter.unusedVariables false
set_option linter.unusedSimpArgs false
set_option maxRecDepth 100000
namespace Go.AM
open Go Go.Proofs Go.ChangeShapes Go.WideShapes Go.ChangeAt Go.RowKit
open Yteooegmokbbeoaa
theorem Zfv (os : Os) (started : os.Started) (H : Type) (enc : TypeId × Value → H) :
    ReturnsInHanded Rows.walksIsomorphicRow.assume Try.checked os 7 .any (Rows.walksIsomorphicSpec.pre6 enc Try.prog Try.f7 Rows.walksIsomorphicRow.domain false) (Rows.walksIsomorphicSpec.post enc Try.prog Try.f7 false true false false) := by
  refine returnsInHanded_of_change (C := Try.checked) Ybb started (by kernel_rfl) Try.func7
    (ChangeSpec.witness6 (enc := enc) (C := Try.checked) false ⟨#[], #[.agg #[.int .u8 0, .int .u8 0, .int .u8 0, .bool false, .slice none 0 0], .agg #[.int .u8 0, .int .u8 0, .int .u8 0, .bool false, .slice none 0 0], .agg #[.int .u8 0, .int .u8 0]], []⟩ 8 (by kernel_rfl) (by kernel_rfl) (by kernel_rfl) (by kernel_rfl)) ?_
  intro W base args ds gs before hval0 hW hcnd _
  have hval : ∀ (j : Nat) t v, Try.f7.params[j]? = some t → args[j]? = some v → Value.okWide Try.prog W .any base t v := hval0
  have hW' := hW
  obtain ⟨p, q, hA0, hV, rfl, hfz, hnd⟩ := hW
  have hA : DataW.TrodAll enc Try.prog W 0 (fun _ => true) true Try.f7.params.toList args.toList ds p := hA0
  rw [Try.params7] at hA hval
  obtain ⟨v0, v1, v2, d0, d1, d2, p0, p1, p2, rfl, rfl, rfl, h0, h1, h2⟩ := trodAll_three hA
  obtain ⟨rfl, rfl⟩ := trodVars_none hV
  obtain ⟨S0, I0, O0, b0, es0, ke0, hS0, hI0, hO0, hes0, hr0⟩ := Yap rfl (hval 0 24 v0 rfl rfl) h0
  obtain ⟨S1, I1, O1, b1, es1, ke1, hS1, hI1, hO1, hes1, hr1⟩ := Yap rfl (hval 1 24 v1 rfl rfl) h1
  obtain ⟨a2, b2, ha2, hb2, hr2⟩ := Yed (hval 2 70 v2 rfl rfl) h2
  clear hA0 hval0
  simp only [List.append_nil] at hW'
  have c := f83 S0 I0 O0 b0 es0 ke0 hes0 S1 I1 O1 b1 es1 ke1 hes1 a2 b2 ha2 hb2
  refine (Zzm c (W := W) (xs := #[v0, v1, v2]) (Zfh hr0 (Zfh hr1 (Zfh hr2 Zwd)))).mono fun e W' ⟨x, he, hiso⟩ => ?_
  obtain ⟨hm, rfl⟩ := Zxr hiso
  have hlt0 : ∀ y ∈ p0, y.block < W.heap.size := fun y hy => hW'.lt y (by simp [hy])
  have hlt1 : ∀ y ∈ p1, y.block < W.heap.size := fun y hy => hW'.lt y (by simp [hy])
  have hlt2 : ∀ y ∈ p2, y.block < W.heap.size := fun y hy => hW'.lt y (by simp [hy])
  refine ⟨_, he, Zsf rfl hm hW' (fun _ _ _ => trodAll_mk1 (shut_bool Try.underlying4 true)) ?_ rfl⟩
  have := trodAll_mk3 (Below.trod Zhh (by kernel_rfl) (of_decide_eq_true (by kernel_rfl)) h0 (Zhj hm) hlt0) (Below.trod Zhh (by kernel_rfl) (of_decide_eq_true (by kernel_rfl)) h1 (Zhj hm) hlt1) (Below.trod Zhh (by kernel_rfl) (of_decide_eq_true (by kernel_rfl)) h2 (Zhj hm) hlt2)
  simp only [List.append_nil, List.append_assoc] at this ⊢
  exact this
theorem walksIsomorphic_said : Rows.WalksIsomorphicSaid :=
  OpenClaim.holds_of_wide 7 Try.f7 rfl rfl rfl rfl rfl rfl rfl ⟨rfl, rfl, rfl, rfl, rfl⟩ rfl rfl rfl rfl rfl (by kernel_rfl) Try.func7 (by kernel_rfl)
    (of_decide_eq_true (by kernel_rfl)) (by unfold Func.isWrapper; first | (rw [if_pos (by decide +kernel)]; kernel_rfl) | (rw [if_neg (by decide +kernel)]; exact ⟨rfl, rfl⟩))
    (fun os started H enc _ => Zfv os started H enc)
end Go.AM
namespace Go.Proofs.Yteooegmokbbeoaa
/-- The statement WalksIsomorphic holds of the given program, for every two machines of numbers and every exchange: it returns true and leaves its arguments as they were. Conditions: none beyond the given row's own cells. -/
theorem isomorphic_holds : Rows.WalksIsomorphicSaid := Go.AM.walksIsomorphic_said
end Go.Proofs.Yteooegmokbbeoaa
