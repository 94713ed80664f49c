/- WalksC: the complete and connected machines of numbers. -/
import Derived.Test.YteooegmokbbeoaaGauJe
import Derived.Test.YteooegmokbbeoaaGauMd
set_option linter.unusedVariables false
set_option linter.unusedSimpArgs false
namespace Go.AM
section
variable {ins outs : Nat} {rows : List (List (Int × Int))}
/-- A list that has 0, and with a state what its edges lead to, has all. -/
theorem K39.conn {S I O : Nat} (h : K39 S I O rows) {l : List Int} (hC : CL rows (1 + I % 3) l) : ∀ s : Nat, s < rows.length → (s : Int) ∈ l := by
  intro s
  induction s using Nat.strongRecOn with
  | _ s ih =>
    intro hs
    cases s with
    | zero =>
      have := hC.hd
      cases l with
      | nil => cases this
      | cons a t => simp only [List.head?_cons, Option.some.injEq] at this; subst this; exact List.mem_cons_self
    | succ t =>
      obtain ⟨a, b, h1, h2, h3⟩ := h.g.tree (t + 1) (by omega) (by rw [← h.len]; exact hs)
      have h4 := ih a h1 (by omega)
      have := hC.clo _ h4 b h2
      simp only [Int.toNat_natCast, h3] at this
      exact this (Int.natCast_nonneg _)
theorem Zuu {r : List (Nat × Word)} {n : Nat} (h : ∀ s : Nat, s < n → (s : Int) ∈ Zbd n r) : Zbd n r = (List.range n).map fun (t : Nat) => (t : Int) := by
  unfold Zbd at h ⊢
  rw [List.filter_eq_self.mpr]
  intro s hs
  obtain ⟨t, h1, h2⟩ := List.mem_map.mp (h s (List.mem_range.mp hs))
  have e : t = s := by omega
  subst e
  exact (List.mem_filter.mp h1).2
end
theorem f42 (S I O : Nat) (tr es : List Nat) (kt ke : SC) (hS : S < 256) (hI : I < 256) (hO : O < 256) (htr : ∀ i, tr.getD i 0 < 256) (hes : ∀ i, es.getD i 0 < 65536) : Zaq AP (X AP) false 42 [.agg [.int .u8 S, .int .u8 I, .int .u8 O, enS (fN .u8) 1 tr kt, enS (fN .u16) 1 es ke]] = some (.bool true, none) := by
  obtain ⟨rows, hK, c39⟩ := f39 tr es kt ke hS hI hO htr hes
  have hm := hK.okm
  have hl := hK.len
  have ha := hK.all
  obtain ⟨r, hr, hI⟩ := Fifo.run (ins := 1 + I % 3) hm (fr := (0 : Nat)) ⟨by have := hm.n1; omega, by have := hm.n1; omega⟩
  have hrl : r.length ≤ 6 := by have := hI.num; omega
  have hC := Zph hm hr hI
  have hoL := (Zfu hI.good).length_eq
  rw [Zdu] at hoL
  have hr0 : r ≠ [] := by intro h; have := hC.len; rw [← hoL, h] at this; simp at this
  have hR := Zuu (hK.conn hC)
  have hRl : (Zbd rows.length r).length = rows.length := by rw [hR]; simp
  have c27 := f27 (k := .c none) (k' := .c none) hm hI.good (by omega) hr hr0
  have c40 := f40 (k := .c none) (k' := .c none) hm
  have c41 := f41 (k := .c none) (k' := .c none) hm
  rw [Zxc ha] at c41
  rw [hRl] at c27
  have c30 := f30
  generalize Zbd rows.length r = R at *
  generalize 1 + I % 3 = ins at *
  generalize 1 + O % 3 = outs at *
  obtain ⟨e, he, hg, hx⟩ := Zat AP42 (args := [.agg [.int .u8 S, .int .u8 I, .int .u8 O, enS (fN .u8) 1 tr kt, enS (fN .u16) 1 es ke]]) rfl (by decide)
  have he : e.length = 35 := he
  have h0 : getE e 0 = .agg [.int .u8 S, .int .u8 I, .int .u8 O, enS (fN .u8) 1 tr kt, enS (fN .u16) 1 es ke] := hg 0 (by simp only [List.length_cons]; omega)
  rw [hx]; clear hx hg; unfold c42
  simp (disch := first | exact dK | fail) only [go_sem, Nat.reduceAdd, Nat.reduceMul, Nat.reduceSub, Nat.reduceLeDiff, Nat.reduceLT, Nat.reduceEqDiff, h0, he, Zan, Zaf, Zai, List.getD_cons_zero, Zam, Zao, Zap, Zah, Zaj, Zae, Zad, Zag, c39, c27, c40, c41, c30, hRl, Zbc]
end Go.AM
