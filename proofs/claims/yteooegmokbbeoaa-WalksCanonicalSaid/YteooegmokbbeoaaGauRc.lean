/- The statement WalksCanonical holds of the given program, for every machine of numbers, every word and every row of exchanges: it returns true and leaves its arguments as they were. Conditions: none beyond the given row's own cells. -/
import Derived.Test.YteooegmokbbeoaaGauRx
import Derived.Test.YteooegmokbbeoaaGauMg
set_option linter.unusedVariables false
set_option linter.unusedSimpArgs false
set_option maxRecDepth 100000
namespace Go.AM
open Go Go.Proofs Go.ChangeShapes Go.WideShapes Go.ChangeAt Go.RowKit
open Yteooegmokbbeoaa
theorem walksCanonical_lifted (os : Os) (started : os.Started) (H : Type) (enc : TypeId × Value → H) :
    ReturnsInHanded Rows.walksCanonicalRow.assume Try.checked os 6 .any (Rows.walksCanonicalSpec.pre6 enc Try.prog Try.f6 Rows.walksCanonicalRow.domain false) (Rows.walksCanonicalSpec.post enc Try.prog Try.f6 false true false false) := by
  refine returnsInHanded_of_change (C := Try.checked) Try_own started (by kernel_rfl) Try.func6
    (ChangeSpec.witness6 (enc := enc) (C := Try.checked) false ⟨#[], #[.agg #[.int .u8 0, .int .u8 0, .int .u8 0, .bool false, .slice none 0 0], .agg #[.slice none 0 0], .slice none 0 0], []⟩ 8 (by kernel_rfl) (by kernel_rfl) (by kernel_rfl) (by kernel_rfl)) ?_
  intro W base args ds gs before hval0 hW hcnd _
  have hval : ∀ (j : Nat) t v, Try.f6.params[j]? = some t → args[j]? = some v → Value.okWide Try.prog W .any base t v := hval0
  have hW' := hW
  obtain ⟨p, q, hA0, hV, rfl, hfz, hnd⟩ := hW
  have hA : DataW.TrodAll enc Try.prog W 0 (fun _ => true) true Try.f6.params.toList args.toList ds p := hA0
  rw [Try.params6] at hA hval
  obtain ⟨v0, v1, v2, d0, d1, d2, p0, p1, p2, rfl, rfl, rfl, h0, h1, h2⟩ := trodAll_three hA
  obtain ⟨rfl, rfl⟩ := trodVars_none hV
  obtain ⟨S0, I0, O0, b0, es0, ke0, hS0, hI0, hO0, hes0, hr0⟩ := open_M rfl (hval 0 24 v0 rfl rfl) h0
  obtain ⟨ss1, ks1, hss1, hr1⟩ := open_W (hval 1 54 v1 rfl rfl) h1
  obtain ⟨ss2, ks2, hss2, hr2⟩ := open_u8s (hval 2 52 v2 rfl rfl) h2
  clear hA0 hval0
  simp only [List.append_nil] at hW'
  have c := f82 S0 I0 O0 b0 es0 ke0 hes0 ss1 ks1 hss1 ss2 ks2 hss2
  refine (calls_of c (W := W) (xs := #[v0, v1, v2]) (rl_cons hr0 (rl_cons hr1 (rl_cons hr2 rl_nil)))).mono fun e W' ⟨x, he, hiso⟩ => ?_
  obtain ⟨hm, rfl⟩ := iso_true hiso
  have hlt0 : ∀ y ∈ p0, y.block < W.heap.size := fun y hy => hW'.lt y (by simp [hy])
  have hlt1 : ∀ y ∈ p1, y.block < W.heap.size := fun y hy => hW'.lt y (by simp [hy])
  have hlt2 : ∀ y ∈ p2, y.block < W.heap.size := fun y hy => hW'.lt y (by simp [hy])
  refine ⟨_, he, post_moved rfl hm hW' (fun _ _ _ => trodAll_mk1 (shut_bool Try.underlying4 true)) ?_ rfl⟩
  have := trodAll_mk3 (Below.trod Try_laidOut (by kernel_rfl) (of_decide_eq_true (by kernel_rfl)) h0 (moved_below hm) hlt0) (Below.trod Try_laidOut (by kernel_rfl) (of_decide_eq_true (by kernel_rfl)) h1 (moved_below hm) hlt1) (Below.trod Try_laidOut (by kernel_rfl) (of_decide_eq_true (by kernel_rfl)) h2 (moved_below hm) hlt2)
  simp only [List.append_nil, List.append_assoc] at this ⊢
  exact this
theorem walksCanonical_said : Rows.WalksCanonicalSaid :=
  OpenClaim.holds_of_wide 6 Try.f6 rfl rfl rfl rfl rfl rfl rfl ⟨rfl, rfl, rfl, rfl, rfl⟩ rfl rfl rfl rfl rfl (by kernel_rfl) Try.func6 (by kernel_rfl)
    (of_decide_eq_true (by kernel_rfl)) (by unfold Func.isWrapper; first | (rw [if_pos (by decide +kernel)]; kernel_rfl) | (rw [if_neg (by decide +kernel)]; exact ⟨rfl, rfl⟩))
    (fun os started H enc _ => walksCanonical_lifted os started H enc)
end Go.AM
namespace Go.Proofs.Yteooegmokbbeoaa
/-- The statement WalksCanonical holds of the given program, for every machine of numbers, every word and every row of exchanges: it returns true and leaves its arguments as they were. Conditions: none beyond the given row's own cells. -/
theorem canonical_holds : Rows.WalksCanonicalSaid := Go.AM.walksCanonical_said
end Go.Proofs.Yteooegmokbbeoaa
