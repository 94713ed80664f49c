/- What the reference says of valid machines: their error, and how many edges they have. -/
import Derived.Test.YteooegmokbbeoaaGauJd
set_option linter.unusedVariables false
set_option linter.unusedSimpArgs false
namespace Go.AM
section
variable {k k' : SC} {ins outs : Nat} {rows : List (List (Int × Int))}
theorem L40_2 (hm : OKM ins outs rows) {s : Nat} (hs : s < rows.length) {e : List V} {g : Nat} (h : e.length = 95 ∧ getE e 1 = .ptr 0 0 0 ∧ getE e 3 = .int .i64 s ∧ getE e 4 = .int .i64 (0 : Nat)) :
    ∃ ex e' H' g', X AP (.inl (some 1) Yde) ⟨e, [some (0, oM k k' ins outs rows)], g, none⟩ = some (ex, ⟨e', H', g', none⟩) ∧ ex = .exit 2 ∧ (∃ K, H' = some (0, oM k k' ins outs rows) :: K) ∧ (e'.length = 95 ∧ getE e' 1 = .ptr 0 0 0 ∧ getE e' 3 = .int .i64 s) := by
  refine Zbx (fun k1 e H g => ∃ (i : Nat) (K : Heap), k1 + i = ins ∧ (e.length = 95 ∧ getE e 1 = .ptr 0 0 0 ∧ getE e 3 = .int .i64 s ∧ getE e 4 = .int .i64 i) ∧ H = some (0, oM k k' ins outs rows) :: K) _ ?_ ins e _ g ⟨0, [], by omega, h, rfl⟩
  rintro k1 e H g ⟨i, K, hk, ⟨he, h1, h3, h4⟩, rfl⟩
  unfold Yde
  have hi := hm.i2
  have w1 : IntKind.i64.wrap ((i : Int) + 1) = ((i + 1 : Nat) : Int) := by rw [Zay (by omega) (by omega)]; rfl
  have hT : (some (0, oM k k' ins outs rows) :: K : Heap).take 1 = [some (0, oM k k' ins outs rows)] := rfl
  by_cases hlt : i < ins
  · have hrow := hm.len s hs
    have hok := hm.ok s hs i hlt
    have hed : (rows.getD s []).getD i (0, 0) = edg rows s i := rfl
    have g0 : ∀ x : Option (Nat × O), getH [some (0, oM k k' ins outs rows), x] 0 0 = some (oM k k' ins outs rows) := fun x => rfl
    generalize hE : edg rows s i = E at *
    obtain ⟨to, out⟩ := E
    rcases hok with hq | ⟨q1, q2, q3, q4⟩
    · cases hq
      simp (disch := first | exact dJ | fail) only [go_sem, Nat.reduceAdd, Nat.reduceMul, Nat.reduceSub, Nat.reduceLeDiff, Nat.reduceLT, Nat.reduceEqDiff, h1, h3, h4, he, w1, Zan, Zaf, Zai, List.getD_cons_zero, Zam, Zao, Zap, Zah, Zaj, Zae, Zad, Zag, hT, hed, g0]
      exact ⟨_, _, _, _, rfl, .inl ⟨rfl, k1 - 1, by omega, i + 1, _, by omega, ⟨gQ he, gQ h1, gQ h3, gQ he⟩, rfl⟩⟩
    · simp only at q1 q2 q3 q4
      have c1 : (to = -1) = False := by simp; omega
      have c2 : (to < 0) = False := by simp; omega
      have c3 : (to ≥ (rows.length : Int)) = False := by simp; omega
      have c4 : (out < 0) = False := by simp; omega
      have c5 : (out ≥ (outs : Int)) = False := by simp; omega
      simp (disch := first | exact dJ | fail) only [go_sem, Nat.reduceAdd, Nat.reduceMul, Nat.reduceSub, Nat.reduceLeDiff, Nat.reduceLT, Nat.reduceEqDiff, h1, h3, h4, he, w1, Zan, Zaf, Zai, List.getD_cons_zero, Zam, Zao, Zap, Zah, Zaj, Zae, Zad, Zag, hT, hed, g0, c1, c2, c3, c4, c5]
      exact ⟨_, _, _, _, rfl, .inl ⟨rfl, k1 - 1, by omega, i + 1, _, by omega, ⟨gQ he, gQ h1, gQ h3, gQ he⟩, rfl⟩⟩
  · have hi' : i = ins := by omega
    subst hi'
    simp (disch := first | exact dJ | fail) only [go_sem, Nat.reduceAdd, Nat.reduceMul, Nat.reduceSub, Nat.reduceLeDiff, Nat.reduceLT, Nat.reduceEqDiff, h1, h3, h4, he, w1, Zan, Zaf, Zai, List.getD_cons_zero, Zam, Zao, Zap, Zah, Zaj, Zae, Zad, Zag, hT]
    exact ⟨_, _, _, _, rfl, .inr ⟨by simp, rfl, ⟨_, rfl⟩, gQ he, gQ h1, gQ h3⟩⟩
theorem L40_1 (hm : OKM ins outs rows) {e : List V} {g : Nat} (h : e.length = 95 ∧ getE e 1 = .ptr 0 0 0 ∧ getE e 3 = .int .i64 (0 : Nat)) :
    ∃ ex e' H' g', X AP (.inl (some 1) Ygn) ⟨e, [some (0, oM k k' ins outs rows)], g, none⟩ = some (ex, ⟨e', H', g', none⟩) ∧ ex = .exit 0 ∧ e'.length = 95 := by
  refine Zbx (fun k1 e H g => ∃ (s : Nat) (K : Heap), k1 + s = rows.length ∧ (e.length = 95 ∧ getE e 1 = .ptr 0 0 0 ∧ getE e 3 = .int .i64 s) ∧ H = some (0, oM k k' ins outs rows) :: K) _ ?_ rows.length e _ g ⟨0, [], by omega, h, rfl⟩
  rintro k1 e H g ⟨s, K, hk, ⟨he, h1, h3⟩, rfl⟩
  unfold Ygn
  have hi := hm.n2
  have w1 : IntKind.i64.wrap ((s : Int) + 1) = ((s + 1 : Nat) : Int) := by rw [Zay (by omega) (by omega)]; rfl
  have hT : (some (0, oM k k' ins outs rows) :: K : Heap).take 1 = [some (0, oM k k' ins outs rows)] := rfl
  by_cases hlt : s < rows.length
  · have hrow := hm.len s hlt
    simp (disch := first | exact dK | fail) only [go_sem, Nat.reduceAdd, Nat.reduceMul, Nat.reduceSub, Nat.reduceLeDiff, Nat.reduceLT, Nat.reduceEqDiff, h1, h3, he, w1, Zan, Zaf, Zai, List.getD_cons_zero, Zam, Zao, Zap, Zah, Zaj, Zae, Zad, Zag, hT, hrow, Zbc]
    generalize hE : putE _ _ _ = E
    have hEl : E.length = 95 := by subst hE; simp (disch := first | exact dG | fail) only [Zab, Zaa, Zac, he]
    have p1 : getE E 1 = .ptr 0 0 0 := by subst hE; exact gQ h1
    have p3 : getE E 3 = .int .i64 s := by subst hE; exact gQ h3
    have p4 : getE E 4 = .int .i64 (0 : Nat) := by subst hE; exact gZ he
    clear hE
    obtain ⟨ex, e1, H1, g1, hx, rfl, ⟨K1, rfl⟩, he1, q1, q3⟩ := L40_2 (k := k) (k' := k') hm hlt (g := g) ⟨hEl, p1, p3, p4⟩
    rw [hx]
    clear hx
    simp (disch := first | exact dJ | fail) only [go_sem, Nat.reduceAdd, Nat.reduceMul, Nat.reduceSub, Nat.reduceLeDiff, Nat.reduceLT, Nat.reduceEqDiff, q1, q3, he1, w1]
    exact ⟨_, _, _, _, rfl, .inl ⟨rfl, k1 - 1, by omega, s + 1, _, by omega, ⟨gQ he1, gQ q1, gQ he1⟩, rfl⟩⟩
  · have hi' : s = rows.length := by omega
    subst hi'
    simp (disch := first | exact dJ | fail) only [go_sem, Nat.reduceAdd, Nat.reduceMul, Nat.reduceSub, Nat.reduceLeDiff, Nat.reduceLT, Nat.reduceEqDiff, h1, h3, he, w1, Zan, Zaf, Zai, List.getD_cons_zero, Zam, Zao, Zap, Zah, Zaj, Zae, Zad, Zag, hT]
    exact ⟨_, _, _, _, rfl, .inr ⟨by simp, rfl, by simp (disch := first | exact dG | fail) only [Zab, Zaa, Zac, he]⟩⟩
theorem f40 (hm : OKM ins outs rows) : Zaq AP (X AP) false 40 [encM k k' ins outs rows] = some (.int .i64 0, none) := by
  obtain ⟨e, he, hg, hx⟩ := Zat AP40 (args := [encM k k' ins outs rows]) rfl (by decide)
  have he : e.length = 95 := he
  have h0 : getE e 0 = encM k k' ins outs rows := hg 0 (by simp only [List.length_cons]; omega)
  rw [hx]; clear hx hg; unfold c40
  have hi := hm.i1
  have hi2 := hm.i2
  have ho := hm.o1
  have ho2 := hm.o2
  have hn := hm.n1
  have hn2 := hm.n2
  have c1 : ((ins : Int) > 16) = False := by simp; omega
  have c2 : ((outs : Int) > 16) = False := by simp; omega
  have c3 : ((rows.length : Int) > 64) = False := by simp; omega
  have c4 : ((ins : Int) < 1) = False := by simp; omega
  have c5 : ((outs : Int) < 1) = False := by simp; omega
  have c6 : ((rows.length : Int) = 0) = False := by simp; intro h; rw [h] at hn; simp at hn
  simp (disch := first | exact dJ | fail) only [go_sem, Nat.reduceAdd, Nat.reduceMul, Nat.reduceSub, Nat.reduceLeDiff, Nat.reduceLT, Nat.reduceEqDiff, h0, he, Zan, Zaf, Zai, List.getD_cons_zero, Zam, Zao, Zap, Zah, Zaj, Zae, Zad, Zag, c1, c2, c3, c4, c5, c6]
  generalize hE : putE _ _ _ = E
  have hEl : E.length = 95 := by subst hE; simp (disch := first | exact dG | fail) only [Zab, Zaa, Zac, he]
  have p1 : getE E 1 = .ptr 0 0 0 := by subst hE; exact gQ he
  have p3 : getE E 3 = .int .i64 (0 : Nat) := by subst hE; exact gZ he
  clear hE
  obtain ⟨ex, e1, H1, g1, hx, rfl, he1⟩ := L40_1 (k := k) (k' := k') hm (g := 1) ⟨hEl, p1, p3⟩
  rw [hx]
  clear hx
  simp (disch := first | exact dJ | fail) only [go_sem, Nat.reduceAdd, Nat.reduceMul, Nat.reduceSub, Nat.reduceLeDiff, Nat.reduceLT, Nat.reduceEqDiff, he1]
/-- How many edges there are. -/
def cnt1 (rows : List (List (Int × Int))) (s : Nat) (c i : Nat) : Nat := if 0 ≤ (edg rows s i).1 then c + 1 else c
def cntS (rows : List (List (Int × Int))) (ins : Nat) (c s : Nat) : Nat := iter (cnt1 rows s) ins c
def cntM (rows : List (List (Int × Int))) (ins : Nat) : Nat := iter (cntS rows ins) rows.length 0
theorem Zrv (rows : List (List (Int × Int))) (s c : Nat) : ∀ i, iter (cnt1 rows s) i c ≤ c + i
  | 0 => Nat.le_refl _
  | i + 1 => by
    have := Zrv rows s c i
    simp only [iter]
    unfold cnt1 at this ⊢
    split <;> omega
theorem Zvn (rows : List (List (Int × Int))) (ins : Nat) : ∀ s, iter (cntS rows ins) s 0 ≤ s * ins
  | 0 => Nat.zero_le _
  | s + 1 => by
    have h1 := Zvn rows ins s
    have h2 := Zrv rows s (iter (cntS rows ins) s 0) ins
    show cntS rows ins (iter (cntS rows ins) s 0) s ≤ _
    unfold cntS
    rw [Nat.succ_mul]
    unfold cntS at h1 h2
    omega
theorem Ztk (rows : List (List (Int × Int))) (s c : Nat) : ∀ i, (∀ j, j < i → 0 ≤ (edg rows s j).1) → iter (cnt1 rows s) i c = c + i
  | 0, _ => rfl
  | i + 1, h => by
    have h1 := Ztk rows s c i (fun j hj => h j (by omega))
    simp only [iter]
    rw [h1]
    unfold cnt1
    rw [if_pos (h i (by omega))]
    omega
theorem Zss (rows : List (List (Int × Int))) (ins : Nat) : ∀ s, (∀ a, a < s → ∀ j, j < ins → 0 ≤ (edg rows a j).1) → iter (cntS rows ins) s 0 = s * ins
  | 0, _ => by simp [iter]
  | s + 1, h => by
    have h1 := Zss rows ins s (fun a ha => h a (by omega))
    simp only [iter]
    rw [h1]
    unfold cntS
    rw [Ztk rows s _ ins (h s (by omega)), Nat.succ_mul]
theorem L52_2 (hm : OKM ins outs rows) {s c : Nat} (hs : s < rows.length) (hc : c ≤ 1024) {e : List V} {g : Nat} (h : e.length = 32 ∧ getE e 1 = .ptr 0 0 0 ∧ getE e 3 = .int .i64 (c : Nat) ∧ getE e 4 = .int .i64 s ∧ getE e 5 = .int .i64 (0 : Nat)) :
    ∃ ex e' H' g', X AP (.inl (some 1) Ydu) ⟨e, [some (0, oM k k' ins outs rows)], g, none⟩ = some (ex, ⟨e', H', g', none⟩) ∧ ex = .exit 2 ∧ H' = [some (0, oM k k' ins outs rows)] ∧ (e'.length = 32 ∧ getE e' 1 = .ptr 0 0 0 ∧ getE e' 3 = .int .i64 (cntS rows ins c s : Nat) ∧ getE e' 4 = .int .i64 s) := by
  refine Zbx (fun k1 e H g => ∃ (i : Nat), k1 + i = ins ∧ (e.length = 32 ∧ getE e 1 = .ptr 0 0 0 ∧ getE e 3 = .int .i64 ((iter (cnt1 rows s) i c) : Nat) ∧ getE e 4 = .int .i64 s ∧ getE e 5 = .int .i64 i) ∧ H = [some (0, oM k k' ins outs rows)]) _ ?_ ins e _ g ⟨0, by omega, h, rfl⟩
  rintro k1 e H g ⟨i, hk, ⟨he, h1, h3, h4, h5⟩, rfl⟩
  unfold Ydu
  have hi := hm.i2
  have w1 : IntKind.i64.wrap ((i : Int) + 1) = ((i + 1 : Nat) : Int) := by rw [Zay (by omega) (by omega)]; rfl
  have hcl := Zrv rows s c i
  have hin : iter (cnt1 rows s) (i + 1) c = cnt1 rows s (iter (cnt1 rows s) i c) i := rfl
  generalize hC : iter (cnt1 rows s) i c = C at *
  have w2 : IntKind.i64.wrap ((C : Int) + 1) = ((C + 1 : Nat) : Int) := by rw [Zay (by omega) (by omega)]; rfl
  have hT : [some (0, oM k k' ins outs rows)].take 1 = [some (0, oM k k' ins outs rows)] := rfl
  by_cases hlt : i < ins
  · have hrow := hm.len s hs
    have hed : ((rows.getD s []).getD i (0, 0)).1 = (edg rows s i).1 := rfl
    by_cases hq : 0 ≤ (edg rows s i).1
    · have c1 : ((edg rows s i).1 ≥ 0) = True := by simp; omega
      rw [cnt1, if_pos hq] at hin
      simp (disch := first | exact dJ | fail) only [go_sem, Nat.reduceAdd, Nat.reduceMul, Nat.reduceSub, Nat.reduceLeDiff, Nat.reduceLT, Nat.reduceEqDiff, h1, h3, h4, h5, he, w1, w2, Zan, Zaf, Zai, List.getD_cons_zero, Zam, Zao, Zap, Zah, Zaj, Zae, Zad, Zag, hT, hed, c1]
      refine ⟨_, _, _, _, rfl, .inl ⟨rfl, k1 - 1, by omega, i + 1, by omega, ?_, rfl⟩⟩
      rw [hin]
      exact ⟨gQ he, gQ h1, gQ he, gQ h4, gQ he⟩
    · have c1 : ((edg rows s i).1 ≥ 0) = False := by simp; omega
      rw [cnt1, if_neg hq] at hin
      simp (disch := first | exact dJ | fail) only [go_sem, Nat.reduceAdd, Nat.reduceMul, Nat.reduceSub, Nat.reduceLeDiff, Nat.reduceLT, Nat.reduceEqDiff, h1, h3, h4, h5, he, w1, w2, Zan, Zaf, Zai, List.getD_cons_zero, Zam, Zao, Zap, Zah, Zaj, Zae, Zad, Zag, hT, hed, c1]
      refine ⟨_, _, _, _, rfl, .inl ⟨rfl, k1 - 1, by omega, i + 1, by omega, ?_, rfl⟩⟩
      rw [hin]
      exact ⟨gQ he, gQ h1, gQ h3, gQ h4, gQ he⟩
  · have hi' : i = ins := by omega
    subst hi'
    simp (disch := first | exact dJ | fail) only [go_sem, Nat.reduceAdd, Nat.reduceMul, Nat.reduceSub, Nat.reduceLeDiff, Nat.reduceLT, Nat.reduceEqDiff, h1, h3, h4, h5, he, w1, Zan, Zaf, Zai, List.getD_cons_zero, Zam, Zao, Zap, Zah, Zaj, Zae, Zad, Zag, hT]
    unfold cntS
    rw [hC]
    exact ⟨_, _, _, _, rfl, .inr ⟨by simp, rfl, rfl, gQ he, gQ h1, gQ h3, gQ h4⟩⟩
theorem L52_1 (hm : OKM ins outs rows) {e : List V} {g : Nat} (h : e.length = 32 ∧ getE e 1 = .ptr 0 0 0 ∧ getE e 3 = .int .i64 ((0 : Nat) : Nat) ∧ getE e 4 = .int .i64 (0 : Nat)) :
    ∃ ex e' H' g', X AP (.inl (some 1) Yhf) ⟨e, [some (0, oM k k' ins outs rows)], g, none⟩ = some (ex, ⟨e', H', g', none⟩) ∧ ex = .exit 0 ∧ (e'.length = 32 ∧ getE e' 3 = .int .i64 (cntM rows ins : Nat)) := by
  refine Zbx (fun k1 e H g => ∃ (s : Nat), k1 + s = rows.length ∧ (e.length = 32 ∧ getE e 1 = .ptr 0 0 0 ∧ getE e 3 = .int .i64 ((iter (cntS rows ins) s 0) : Nat) ∧ getE e 4 = .int .i64 s) ∧ H = [some (0, oM k k' ins outs rows)]) _ ?_ rows.length e _ g ⟨0, by omega, h, rfl⟩
  rintro k1 e H g ⟨s, hk, ⟨he, h1, h3, h4⟩, rfl⟩
  unfold Yhf
  have hn := hm.n2
  have hi2 := hm.i2
  have w1 : IntKind.i64.wrap ((s : Int) + 1) = ((s + 1 : Nat) : Int) := by rw [Zay (by omega) (by omega)]; rfl
  have hT : [some (0, oM k k' ins outs rows)].take 1 = [some (0, oM k k' ins outs rows)] := rfl
  by_cases hlt : s < rows.length
  · have hcl := Zvn rows ins s
    have : s * ins ≤ 1024 := Nat.mul_le_mul (by omega : s ≤ 64) hi2
    simp (disch := first | exact dJ | fail) only [go_sem, Nat.reduceAdd, Nat.reduceMul, Nat.reduceSub, Nat.reduceLeDiff, Nat.reduceLT, Nat.reduceEqDiff, h1, h3, h4, he, w1, Zan, Zaf, Zai, List.getD_cons_zero, Zam, Zao, Zap, Zah, Zaj, Zae, Zad, Zag, hT]
    generalize hE : putE _ _ _ = E
    have hEl : E.length = 32 := by subst hE; simp (disch := first | exact dG | fail) only [Zab, Zaa, Zac, he]
    have p1 : getE E 1 = .ptr 0 0 0 := by subst hE; exact gQ h1
    have p3 : getE E 3 = .int .i64 ((iter (cntS rows ins) s 0) : Nat) := by subst hE; exact gQ h3
    have p4 : getE E 4 = .int .i64 s := by subst hE; exact gQ h4
    have p5 : getE E 5 = .int .i64 (0 : Nat) := by subst hE; exact gZ he
    clear hE
    obtain ⟨ex, e1, H1, g1, hx, rfl, rfl, he1, q1, q3, q4⟩ := L52_2 (k := k) (k' := k') hm hlt (c := iter (cntS rows ins) s 0) (by omega) (g := g) ⟨hEl, p1, p3, p4, p5⟩
    rw [hx]
    clear hx
    simp (disch := first | exact dJ | fail) only [go_sem, Nat.reduceAdd, Nat.reduceMul, Nat.reduceSub, Nat.reduceLeDiff, Nat.reduceLT, Nat.reduceEqDiff, q1, q3, q4, he1, w1]
    exact ⟨_, _, _, _, rfl, .inl ⟨rfl, k1 - 1, by omega, s + 1, by omega, ⟨gQ he1, gQ q1, gQ q3, gQ he1⟩, rfl⟩⟩
  · have hi' : s = rows.length := by omega
    subst hi'
    simp (disch := first | exact dJ | fail) only [go_sem, Nat.reduceAdd, Nat.reduceMul, Nat.reduceSub, Nat.reduceLeDiff, Nat.reduceLT, Nat.reduceEqDiff, h1, h3, h4, he, w1, Zan, Zaf, Zai, List.getD_cons_zero, Zam, Zao, Zap, Zah, Zaj, Zae, Zad, Zag, hT]
    exact ⟨_, _, _, _, rfl, .inr ⟨by simp, rfl, gQ he, gQ h3⟩⟩
theorem f52 (hm : OKM ins outs rows) : Zaq AP (X AP) false 52 [encM k k' ins outs rows] = some (.int .i64 (cntM rows ins : Nat), none) := by
  obtain ⟨e, he, hg, hx⟩ := Zat AP52 (args := [encM k k' ins outs rows]) rfl (by decide)
  have he : e.length = 32 := he
  have h0 : getE e 0 = encM k k' ins outs rows := hg 0 (by simp only [List.length_cons]; omega)
  rw [hx]; clear hx hg; unfold c52
  simp (disch := first | exact dJ | fail) only [go_sem, Nat.reduceAdd, Nat.reduceMul, Nat.reduceSub, Nat.reduceLeDiff, Nat.reduceLT, Nat.reduceEqDiff, h0, he, Zan, Zaf, Zai, List.getD_cons_zero, Zam, Zao, Zap, Zah, Zaj, Zae, Zad, Zag]
  generalize hE : putE _ _ _ = E
  have hEl : E.length = 32 := by subst hE; simp (disch := first | exact dG | fail) only [Zab, Zaa, Zac, he]
  have p1 : getE E 1 = .ptr 0 0 0 := by subst hE; exact gQ he
  have p3 : getE E 3 = .int .i64 (0 : Nat) := by subst hE; exact gZ he
  have p4 : getE E 4 = .int .i64 (0 : Nat) := by subst hE; exact gZ he
  clear hE
  obtain ⟨ex, e1, H1, g1, hx, rfl, he1, q3⟩ := L52_1 (k := k) (k' := k') hm (g := 1) ⟨hEl, p1, p3, p4⟩
  rw [hx]
  clear hx
  simp (disch := first | exact dJ | fail) only [go_sem, Nat.reduceAdd, Nat.reduceMul, Nat.reduceSub, Nat.reduceLeDiff, Nat.reduceLT, Nat.reduceEqDiff, he1, q3]
/-- Whether all edges are there. -/
def Ztt (rows : List (List (Int × Int))) (ins : Nat) : Bool := decide (cntM rows ins = rows.length * ins)
theorem f41 (hm : OKM ins outs rows) : Zaq AP (X AP) false 41 [encM k k' ins outs rows] = some (.bool (Ztt rows ins), none) := by
  obtain ⟨e, he, hg, hx⟩ := Zat AP41 (args := [encM k k' ins outs rows]) rfl (by decide)
  have he : e.length = 12 := he
  have h0 : getE e 0 = encM k k' ins outs rows := hg 0 (by simp only [List.length_cons]; omega)
  rw [hx]; clear hx hg; unfold c41
  have c52 := f52 (k := k) (k' := k') hm
  have hn := hm.n2
  have hi := hm.i2
  have hh : rows.length * ins ≤ 1024 := Nat.mul_le_mul hn hi
  have w1 : IntKind.i64.wrap ((rows.length : Int) * (ins : Int)) = ((rows.length * ins : Nat) : Int) := by rw [← Int.natCast_mul, Zay (by omega) (by omega)]
  simp (disch := first | exact dK | fail) only [go_sem, Nat.reduceAdd, Nat.reduceMul, Nat.reduceSub, Nat.reduceLeDiff, Nat.reduceLT, Nat.reduceEqDiff, h0, he, Zan, Zaf, Zai, List.getD_cons_zero, Zam, Zao, Zap, Zah, Zaj, Zae, Zad, Zag, c52, w1, Zbc]
  unfold Ztt
  simp only [Int.natCast_inj]
theorem Zxc (h : ∀ a, a < rows.length → ∀ b, b < ins → 0 ≤ (edg rows a b).1) : Ztt rows ins = true := by
  unfold Ztt cntM
  rw [Zss rows ins rows.length h]
  simp
end
end Go.AM
