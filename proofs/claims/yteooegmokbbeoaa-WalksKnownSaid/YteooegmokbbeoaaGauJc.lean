/- Complete and connected machines of numbers: the edges that were left, and the Zcc. -/
import Derived.Test.YteooegmokbbeoaaGauJb
set_option linter.unusedVariables false
set_option linter.unusedSimpArgs false
namespace Go.AM
section
variable {S I O : Nat} {tr es : List Nat} {kt ke : SC} {ins outs n g4 : Nat} {gs : List Nat}
/-- All edges before the place are set. -/
def Done (rs : List (List (Int × Int))) (ins s t : Nat) : Prop := (∀ a, a < s → ∀ b, b < ins → 0 ≤ (edg rs a b).1) ∧ ∀ b, b < t → 0 ≤ (edg rs s b).1
theorem L39_6 (hes : ∀ i, es.getD i 0 < 65536) (hi1 : 1 ≤ ins) (hi16 : ins ≤ 16) (hn : 1 ≤ n) (hn64 : n ≤ 64) {rs0 : List (List (Int × Int))} {H0 : Heap} {bb : Nat} (hbb : H0.length = bb) {s : Nat} (hs : s < n) (hI0 : I39 (bx39 S I O tr kt es ke) ins outs n g4 gs rs0 H0) (hG0 : G39 n ins outs n rs0) (hD0 : Done rs0 ins s 0) {e : List V} {g : Nat} (h : e.length = 178 ∧ getE e 1 = .ptr 0 0 0 ∧ getE e 2 = .ptr 1 1 0 ∧ getE e 3 = .int .i64 n ∧ getE e 4 = .ptr 2 2 0 ∧ getE e 13 = .int .i64 s ∧ getE e 14 = .int .i64 (0 : Nat)) :
    ∃ ex e' H' g', X AP (.inl (some bb) Yfq) ⟨e, H0, g, none⟩ = some (ex, ⟨e', H', g', none⟩) ∧ ex = .exit 10 ∧ (∃ rs, I39 (bx39 S I O tr kt es ke) ins outs n g4 gs rs H' ∧ G39 n ins outs n rs ∧ Done rs ins (s + 1) 0) ∧ (e'.length = 178 ∧ getE e' 1 = .ptr 0 0 0 ∧ getE e' 2 = .ptr 1 1 0 ∧ getE e' 3 = .int .i64 n ∧ getE e' 4 = .ptr 2 2 0 ∧ getE e' 13 = .int .i64 s) := by
  refine Zbx (fun k1 e H' g => ∃ (t : Nat) (rs : List (List (Int × Int))) (H K : Heap), k1 + t = ins ∧ (e.length = 178 ∧ getE e 1 = .ptr 0 0 0 ∧ getE e 2 = .ptr 1 1 0 ∧ getE e 3 = .int .i64 n ∧ getE e 4 = .ptr 2 2 0 ∧ getE e 13 = .int .i64 s ∧ getE e 14 = .int .i64 t) ∧ H' = H ++ K ∧ I39 (bx39 S I O tr kt es ke) ins outs n g4 gs rs H ∧ G39 n ins outs n rs ∧ Done rs ins s t) _ ?_ ins e _ g ⟨0, rs0, H0, [], by omega, h, by simp, hI0, hG0, hD0⟩
  rintro k1 e H' g ⟨t, rs, H, K, hk, ⟨he, h1, h2, h3, h4, h13, h14⟩, rfl, hI, hG, hD⟩
  unfold Yfq
  have hlen := hI.len
  have hl0 := hI0.len
  have hb1 : H.length = bb := by omega
  clear hI0 hG0 hD0 h
  have w1 : IntKind.i64.wrap ((t : Int) + 1) = ((t + 1 : Nat) : Int) := by rw [Zay (by omega) (by omega)]; rfl
  have hT : (H ++ K).take bb = H := by rw [← hb1, List.take_append_of_le_length (Nat.le_refl _), List.take_of_length_le (Nat.le_refl _)]
  have b0 := hI.a0
  have b2 := hI.a2
  have b4 := hI.a4
  unfold Znt at b4
  by_cases hlt : t < ins
  · obtain ⟨ga, r1, r2, r3, r4⟩ := hI.row (a := s) hs
    have hsi : s * ins ≤ 1024 := Nat.mul_le_mul (by omega : s ≤ 64) hi16
    have w2 : IntKind.i64.wrap ((s : Int) * (ins : Int)) = ((s * ins : Nat) : Int) := by rw [← Int.natCast_mul, Zay (by omega) (by omega)]
    have w3 : IntKind.i64.wrap (((s * ins : Nat) : Int) + (t : Int)) = ((s * ins + t : Nat) : Int) := by rw [← Int.natCast_add, Zay (by omega) (by omega)]
    have hv := hes (s * ins + t)
    have c67 := f67 es ke hes (s * ins + t)
    have d2 := Zfe (es.getD (s * ins + t) 0) n
    have hto : es.getD (s * ins + t) 0 % n < n := Nat.mod_lt _ (by omega)
    have lE := Zxw (l := rs.getD s []) (i := t) (by omega)
    have hed : ((rs.getD s []).getD t (0, 0)).1 = (edg rs s t).1 := rfl
    have hfl2 : ((rs.getD s []).flatMap fE).length = ins * 2 := by rw [Ziz, r4]
    have lenr : 5 + 3 * s < H.length := by omega
    have sa : ∀ x K, (H ++ K).set (5 + 3 * s) x = H.set (5 + 3 * s) x ++ K := fun x K => Zgy x (by omega)
    have e2 : ∀ K, getH (H ++ K) 2 2 = _ := fun K => (Zar K (by omega)).trans b2
    have e4 : ∀ K, getH (H ++ K) 4 g4 = _ := fun K => (Zar K (by omega)).trans b4
    have ea : ∀ K, getH (H ++ K) (5 + 3 * s) ga = _ := fun K => (Zar K (by omega)).trans r2
    rw [hed] at lE
    have spE := Ztm (l := rs.getD s []) (i := t) (a := ((es.getD (s * ins + t) 0 % n : Nat) : Int)) (by omega)
    have hee : ((rs.getD s []).getD t (0, 0)).2 = (edg rs s t).2 := rfl
    rw [hee] at spE
    by_cases hq : (edg rs s t).1 < 0
    · have hIn := hI.set (to := ((es.getD (s * ins + t) 0 % n : Nat) : Int)) (a := s) (b := t) hs hlt r3
      have hGn := hG.set (Nat.le_refl _) (a := s) (b := t) hs hlt hq (to := ((es.getD (s * ins + t) 0 % n : Nat) : Int)) ⟨by omega, by omega⟩
      have hDn : Done (setE rs s t ((es.getD (s * ins + t) 0 % n : Nat) : Int)) ins s (t + 1) := by
        have he := fun c d => Zkk (rs := rs) (a := s) (b := t) (c := c) (d := d) (to := ((es.getD (s * ins + t) 0 % n : Nat) : Int)) (by rw [hG.len]; exact hs) (by rw [hG.rm s hs]; exact hlt)
        refine ⟨fun a ha b hb => ?_, fun b hb => ?_⟩
        · rw [he]
          split
          · exact Int.natCast_nonneg _
          · exact hD.1 a ha b hb
        · rw [he]
          split
          · exact Int.natCast_nonneg _
          · exact hD.2 b (by omega)
      generalize es.getD (s * ins + t) 0 % n = to at *
      generalize es.getD (s * ins + t) 0 = vv at *
      clear hG hI hD
      simp (disch := first | exact dK | fail) only [go_sem, Nat.reduceAdd, Nat.reduceMul, Nat.reduceSub, Nat.reduceLeDiff, Nat.reduceLT, Nat.reduceEqDiff, h1, h2, h3, h4, h13, h14, he, w1, w2, w3, hT, b0, b2, b4, r1, r2, e2, e4, ea, sa, c67, d2, lE, Zan, Zaf, Zai, List.getD_cons_zero, Zam, Zao, Zap, Zah, Zaj, Zae, Zad, Zag, Zbc, spE, hfl2, hq, Zam, Int.reduceToNat, Nat.zero_mul]
      exact ⟨_, _, _, _, rfl, .inl ⟨rfl, k1 - 1, by omega, t + 1, _, _, [none], by omega, ⟨gQ he, gQ h1, gQ h2, gQ h3, gQ h4, gQ h13, gQ he⟩, rfl, hIn, hGn, hDn⟩⟩
    · have hDn : Done rs ins s (t + 1) := by
        refine ⟨hD.1, fun b hb => ?_⟩
        by_cases e : b = t
        · subst e; omega
        · exact hD.2 b (by omega)
      simp (disch := first | exact dK | fail) only [go_sem, Nat.reduceAdd, Nat.reduceMul, Nat.reduceSub, Nat.reduceLeDiff, Nat.reduceLT, Nat.reduceEqDiff, h1, h2, h3, h4, h13, h14, he, w1, w2, w3, hT, b0, b2, b4, r1, r2, lE, Zan, Zaf, Zai, List.getD_cons_zero, Zam, Zao, Zap, Zah, Zaj, Zae, Zad, Zag, Zbc, hq, Zam, Int.reduceToNat, Nat.zero_mul]
      exact ⟨_, _, _, _, rfl, .inl ⟨rfl, k1 - 1, by omega, t + 1, _, _, [], by omega, ⟨gQ he, gQ h1, gQ h2, gQ h3, gQ h4, gQ h13, gQ he⟩, by simp, hI, hG, hDn⟩⟩
  · have ht : t = ins := by omega
    subst ht
    simp (disch := first | exact dK | fail) only [go_sem, Nat.reduceAdd, Nat.reduceMul, Nat.reduceSub, Nat.reduceLeDiff, Nat.reduceLT, Nat.reduceEqDiff, h1, h2, h3, h4, h13, h14, he, w1, hT, b2, Zan, Zaf, Zai, List.getD_cons_zero, Zam, Zao, Zap, Zah, Zaj, Zae, Zad, Zag, Zbc]
    refine ⟨_, _, _, _, rfl, .inr ⟨by simp, rfl, ⟨rs, hI, hG, ?_⟩, gQ he, gQ h1, gQ h2, gQ h3, gQ h4, gQ h13⟩⟩
    refine ⟨fun a ha b hb => ?_, fun b hb => absurd hb (by omega)⟩
    by_cases e : a = s
    · subst e; exact hD.2 b hb
    · exact hD.1 a (by omega) b hb
theorem L39_5 (hes : ∀ i, es.getD i 0 < 65536) (hi1 : 1 ≤ ins) (hi16 : ins ≤ 16) (hn : 1 ≤ n) (hn64 : n ≤ 64) {rs0 : List (List (Int × Int))} {H0 : Heap} {bb : Nat} (hbb : H0.length = bb) (hI0 : I39 (bx39 S I O tr kt es ke) ins outs n g4 gs rs0 H0) (hG0 : G39 n ins outs n rs0) {e : List V} {g : Nat} (h : e.length = 178 ∧ getE e 1 = .ptr 0 0 0 ∧ getE e 2 = .ptr 1 1 0 ∧ getE e 3 = .int .i64 n ∧ getE e 4 = .ptr 2 2 0 ∧ getE e 13 = .int .i64 (0 : Nat)) :
    ∃ ex e' H' g', X AP (.inl (some bb) Yer) ⟨e, H0, g, none⟩ = some (ex, ⟨e', H', g', none⟩) ∧ ex = .exit 8 ∧ (∃ rs, I39 (bx39 S I O tr kt es ke) ins outs n g4 gs rs H' ∧ G39 n ins outs n rs ∧ Done rs ins n 0) ∧ (e'.length = 178 ∧ getE e' 1 = .ptr 0 0 0 ∧ getE e' 2 = .ptr 1 1 0 ∧ getE e' 3 = .int .i64 n ∧ getE e' 4 = .ptr 2 2 0) := by
  refine Zbx (fun k1 e H g => ∃ (s : Nat) (rs : List (List (Int × Int))), k1 + s = n ∧ (e.length = 178 ∧ getE e 1 = .ptr 0 0 0 ∧ getE e 2 = .ptr 1 1 0 ∧ getE e 3 = .int .i64 n ∧ getE e 4 = .ptr 2 2 0 ∧ getE e 13 = .int .i64 s) ∧ I39 (bx39 S I O tr kt es ke) ins outs n g4 gs rs H ∧ G39 n ins outs n rs ∧ Done rs ins s 0) _ ?_ n e _ g ⟨0, rs0, by omega, h, hI0, hG0, ⟨fun a ha => absurd ha (by omega), fun b hb => absurd hb (by omega)⟩⟩
  rintro k1 e H g ⟨s, rs, hk, ⟨he, h1, h2, h3, h4, h13⟩, hI, hG, hD⟩
  unfold Yer
  have hlen := hI.len
  have hl0 := hI0.len
  have hb1 : H.length = bb := by omega
  clear hI0 hG0 h
  have w1 : IntKind.i64.wrap ((s : Int) + 1) = ((s + 1 : Nat) : Int) := by rw [Zay (by omega) (by omega)]; rfl
  have hT : H.take bb = H := List.take_of_length_le (by omega)
  by_cases hlt : s < n
  · simp (disch := first | exact dJ | fail) only [go_sem, Nat.reduceAdd, Nat.reduceMul, Nat.reduceSub, Nat.reduceLeDiff, Nat.reduceLT, Nat.reduceEqDiff, h1, h2, h3, h4, h13, he, w1, hT]
    generalize hE : putE _ _ _ = E
    have hEl : E.length = 178 := by subst hE; simp (disch := first | exact dG | fail) only [Zab, Zaa, Zac, he]
    have p1 : getE E 1 = .ptr 0 0 0 := by subst hE; exact gQ h1
    have p2 : getE E 2 = .ptr 1 1 0 := by subst hE; exact gQ h2
    have p3 : getE E 3 = .int .i64 n := by subst hE; exact gQ h3
    have p4 : getE E 4 = .ptr 2 2 0 := by subst hE; exact gQ h4
    have p13 : getE E 13 = .int .i64 s := by subst hE; exact gQ h13
    have p14 : getE E 14 = .int .i64 (0 : Nat) := by subst hE; exact gZ he
    clear hE
    rw [hb1]
    obtain ⟨ex, e1, H2, g1, hx, rfl, ⟨rs1, hI1, hG1, hD1⟩, he1, q1, q2, q3, q4, q13⟩ := L39_6 hes hi1 hi16 hn hn64 hb1 hlt hI hG hD (g := g) ⟨hEl, p1, p2, p3, p4, p13, p14⟩
    rw [hx]
    clear hx
    simp (disch := first | exact dJ | fail) only [go_sem, Nat.reduceAdd, Nat.reduceMul, Nat.reduceSub, Nat.reduceLeDiff, Nat.reduceLT, Nat.reduceEqDiff, q1, q2, q3, q4, q13, he1, w1]
    exact ⟨_, _, _, _, rfl, .inl ⟨rfl, k1 - 1, by omega, s + 1, rs1, by omega, ⟨gQ he1, gQ q1, gQ q2, gQ q3, gQ q4, gQ he1⟩, hI1, hG1, hD1⟩⟩
  · have hs : s = n := by omega
    subst hs
    simp (disch := first | exact dJ | fail) only [go_sem, Nat.reduceAdd, Nat.reduceMul, Nat.reduceSub, Nat.reduceLeDiff, Nat.reduceLT, Nat.reduceEqDiff, h1, h2, h3, h4, h13, he, w1, hT]
    exact ⟨_, _, _, _, rfl, .inr ⟨by simp, rfl, ⟨rs, hI, hG, hD⟩, gQ he, gQ h1, gQ h2, gQ h3, gQ h4⟩⟩
end
end Go.AM
