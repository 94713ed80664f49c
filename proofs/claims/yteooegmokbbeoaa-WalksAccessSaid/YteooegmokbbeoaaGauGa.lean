/- The states that are reached; words compared; a machine's part, in the reference. -/
import Derived.Test.YteooegmokbbeoaaGauFm
set_option linter.unusedVariables false
set_option linter.unusedSimpArgs false
namespace Go.AM
def ordR (r : List (Nat × Word)) : List Int := r.map fun x => (x.1 : Int)
section
variable {k k' : SC} {ins outs : Nat} {rows : List (List (Int × Int))}
def C23 (k k' : SC) (ins outs : Nat) (rows : List (List (Int × Int))) (e0 : List V) (st : LSt) (g : Nat) (l : List Int) : Heap :=
  [some (0, oM k k' ins outs rows), some (1, .cells [.sl 2 g 1 0 l.length none] .fixed), some (g, grO fI l), none, some (4, oM k k' ins outs rows), some (5, .cells [.int .i64 0] .fixed), some (6, .loop st none false e0 [7] A23_1 B23_1)]
theorem Y23 {r : List (Nat × Word)} (hrl : r.length ≤ 64) {e0 : List V} (h : e0.length = 14 ∧ getE e0 3 = .ptr 1 1 0) : Yok rows (0 : Nat) (.yld 6 6) 7 (fun ys K => ∃ g, K = C23 k k' ins outs rows e0 .ready g (ordR ys)) r := by
  intro ys x zs H γ hr hC hb
  obtain ⟨he, h3⟩ := h
  obtain ⟨gl, hC⟩ := hC
  have hH : H = C23 k k' ins outs rows e0 .ready gl (ordR ys) ++ H.drop 7 := by rw [← hC, List.take_append_drop]
  generalize hK : H.drop 7 = K at *
  subst hH
  clear hC hb hK
  have hyl : ys.length ≤ 64 := by rw [hr] at hrl; simp at hrl; omega
  have hol : (ordR ys).length = ys.length := by simp [ordR]
  have hsn : ordR (ys ++ [x]) = ordR ys ++ [(x.1 : Int)] := by simp [ordR]
  generalize hL : ordR ys = L at *
  have harr : (arr3 rows (0 : Nat) x).length = 3 := Enc.len (f := arr3 rows (0 : Nat)) x
  have hst : (cellsOf (V.agg (arr3 rows (0 : Nat) x))).length = 3 := harr
  have d0 : ldC 1 false 0 (arr3 rows 0 x) = some (.int .i64 x.1) := ldC_a0
  have h1 : X AP A23_1 ⟨putL e0 [7] [.agg (arr3 rows (0 : Nat) x)], C23 k k' ins outs rows e0 .ready gl L ++ K, γ, some (6, 6)⟩ = some (.normal, ⟨putE (putE e0 7 (.agg (arr3 rows (0 : Nat) x))) 4 (.ptr (K.length + 7) γ 0), C23 k k' ins outs rows e0 .ready gl L ++ (K ++ [some (γ, .cells (arr3 rows (0 : Nat) x) .fixed)]), γ + 1, some (6, 6)⟩) := by
    unfold A23_1 putL putL C23
    simp (disch := first | assumption | decide | omega | (refine id ?_; simp only [go_sem, Zbl, Zbf, Zbg, Zap, Zaq, Nat.add_assoc, List.length_map, List.length_range, Nat.reduceAdd, *]; first | done | decide | omega)) only [go_sem, Nat.reduceAdd, Nat.reduceMul, Nat.reduceSub, Nat.reduceLeDiff, Nat.reduceLT, Nat.reduceEqDiff, he, h3, Zaz, Zba, Zbd, List.getD_cons_zero, Zbb, Zbc, Zaw, Zax, Zay, Zaa, Zab, appA_I, splice_full, set_last, Zap]
  have h2 : ∃ e2 K2 γ2, X AP B23_1 ⟨putE (putE e0 7 (.agg (arr3 rows (0 : Nat) x))) 4 (.ptr (K.length + 7) γ 0), C23 k k' ins outs rows e0 .busy gl L ++ (K ++ [some (γ, .cells (arr3 rows (0 : Nat) x) .fixed)]), γ + 1, some (6, 6)⟩ = some (.normal, ⟨e2, C23 k k' ins outs rows e0 .busy (γ + 2) (L ++ [(x.1 : Int)]) ++ (K ++ K2), γ2, some (6, 6)⟩) := by
    generalize hE : putE _ 4 _ = E
    have hEl : E.length = 14 := by subst hE; simp (disch := first | decide | (simp only [Zbe, *]; omega)) only [Zam, Zan, Zbe, he]
    have p3 : getE E 3 = .ptr 1 1 0 := by subst hE; simp (disch := first | decide | (simp only [Zbe, *]; omega)) only [Zam, Zan, Zbe, h3]
    have p4 : getE E 4 = .ptr (K.length + 7) γ 0 := by subst hE; simp (disch := first | decide | (simp only [Zbe, *]; omega)) only [Zam, Zan, Zbe, he]
    clear hE
    unfold B23_1 C23
    simp (disch := first | assumption | decide | omega | (refine id ?_; simp only [go_sem, Zbl, Zbf, Zbg, Zap, Zaq, Nat.add_assoc, List.length_map, List.length_range, Nat.reduceAdd, *]; first | done | decide | omega)) only [go_sem, Nat.reduceAdd, Nat.reduceMul, Nat.reduceSub, Nat.reduceLeDiff, Nat.reduceLT, Nat.reduceEqDiff, hEl, p3, p4, Zaz, Zba, Zbd, List.getD_cons_zero, Zbb, Zbc, Zaw, Zax, Zay, Zaa, Zab, appA_I, Zap, d0, List.append_assoc, Zaq, set_last, set_lastj]
    exact ⟨_, _, _, rfl⟩
  obtain ⟨e2, K2, γ2, h2⟩ := h2
  have h3' := callV_yld (P := AP) (id := 6) (g := 6) (args := [.agg (arr3 rows (0 : Nat) x)]) (ps := [7]) (keep := false) (p0 := none) (env := e0) (asg := A23_1) (body := B23_1) (by rfl) rfl h1 (by rfl) h2 (by rfl)
  have hs8 : ∀ L2 : Heap, (C23 k k' ins outs rows e0 .busy (γ + 2) (L ++ [(x.1 : Int)]) ++ L2).set 6 (some (6, .loop .ready none false e0 [7] A23_1 B23_1)) = C23 k k' ins outs rows e0 .ready (γ + 2) (L ++ [(x.1 : Int)]) ++ L2 := fun L => rfl
  have hfin : ((C23 k k' ins outs rows e0 .ready (γ + 2) (L ++ [(x.1 : Int)]) ++ (K ++ K2)).take (C23 k k' ins outs rows e0 .ready gl L ++ K).length) = C23 k k' ins outs rows e0 .ready (γ + 2) (L ++ [(x.1 : Int)]) ++ K := by
    rw [← List.append_assoc]
    exact List.take_left' (by simp [C23])
  simp only [Bool.false_eq_true, if_false] at h3'
  rw [hs8, hfin] at h3'
  exact ⟨_, _, h3', ⟨_, by rw [hsn]; rfl⟩, rfl⟩
theorem f23 (hm : OKM ins outs rows) {r : List (Nat × Word)} (hrl : r.length ≤ 64) (hF : Fifo rows ins (0 : Nat) [[]] [] r) : callI AP (X AP) false 23 [encM k k' ins outs rows] = some (ints (ordR r) .n, none) := by
  have hn1 := hm.n1
  obtain ⟨e, he, hg, hx⟩ := Zad AP23 (args := [encM k k' ins outs rows]) rfl (by decide)
  have he : e.length = 14 := he
  have h0 : getE e 0 = encM k k' ins outs rows := hg 0 (by simp only [List.length_cons]; omega)
  rw [hx]; clear hx hg; unfold c23
  have c43 := f43 (k := k) (k' := k') (ins := ins) (outs := outs) (rows := rows) 0
  simp (disch := first | assumption | decide | omega | (refine id ?_; simp only [go_sem, Zbl, Zbf, Zbg, Zap, Zaq, Nat.add_assoc, List.length_map, List.length_range, Nat.reduceAdd, *]; first | done | decide | omega)) only [go_sem, Nat.reduceAdd, Nat.reduceMul, Nat.reduceSub, Nat.reduceLeDiff, Nat.reduceLT, Nat.reduceEqDiff, h0, he, Zaz, Zba, Zbd, List.getD_cons_zero, Zbb, Zbc, Zaw, Zax, Zay, Zaa, Zab, appA_I, c43]
  generalize hE : putE _ _ _ = E
  have hEl : E.length = 14 := by subst hE; simp (disch := first | decide | (simp only [Zbe, *]; omega)) only [Zam, Zan, Zbe, he]
  have p3 : getE E 3 = .ptr 1 1 0 := by subst hE; simp (disch := first | decide | (simp only [Zbe, *]; omega)) only [Zam, Zan, Zbe, he]
  have p6 : getE E 6 = .fn 58 [] [.ptr 4 4 0, .ptr 5 5 0] := by subst hE; simp (disch := first | decide | (simp only [Zbe, *]; omega)) only [Zam, Zan, Zbe, he]
  obtain ⟨H', γ', hc, ⟨gl, k1⟩, k2⟩ := f58 (k := k) (k' := k') (outs := outs) (kf := .fixed) (im := 4) (gm := 4) (ifr := 5) (gfr := 5) hm (f := 0) (by omega) (Y23 (k := k) (k' := k') (ins := ins) (outs := outs) (rows := rows) hrl (e0 := E) ⟨hEl, p3⟩) (fun ys K h => by obtain ⟨g, rfl⟩ := h; rfl) ⟨2, rfl⟩ rfl (fun ys K h => by obtain ⟨g, rfl⟩ := h; rfl) hF 7
  have hlast : getH H' 6 6 = some (.loop .ready none false E [7] A23_1 B23_1) := by
    rw [← getH_take (b := 7) (by omega), k1]; rfl
  have hxr := X_rngf (P := AP) (keep := false) (f := .t 6) (ps := [7]) (asg := A23_1) (body := B23_1) (e := E) (γ := 6) (k := 58) (a := []) (b := [.ptr 4 4 0, .ptr 5 5 0]) (H := (C23 k k' ins outs rows E .ready 2 []).take 6) (H2 := H') (γ2 := γ') p6 hc hlast
  have hH6 : (C23 k k' ins outs rows E .ready 2 []).take 6 = [some (0, oM k k' ins outs rows), some (1, .cells [.sl 2 2 1 0 0 none] .fixed), some (2, .cells [] .nilo), none, some (4, oM k k' ins outs rows), some (5, .cells [.int .i64 0] .fixed)] := rfl
  rw [hH6] at hxr
  rw [hxr]
  have hH8 : H'.take 6 = (C23 k k' ins outs rows E .ready gl (ordR r)).take 6 := by
    rw [← k1, List.take_take]; rfl
  simp only [List.length_cons, List.length_nil, Nat.zero_add, Nat.reduceAdd, Bool.false_eq_true, if_false, hH8]
  unfold C23
  simp (disch := first | assumption | decide | omega | (refine id ?_; simp only [go_sem, Zbl, Zbf, Zbg, Zap, Zaq, Nat.add_assoc, List.length_map, List.length_range, Nat.reduceAdd, *]; first | done | decide | omega)) only [go_sem, Nat.reduceAdd, Nat.reduceMul, Nat.reduceSub, Nat.reduceLeDiff, Nat.reduceLT, Nat.reduceEqDiff, p3, hEl, Zaz, Zba, Zbd, List.getD_cons_zero, Zbb, Zbc, Zaw, Zax, Zay, Zaa, Zab, appA_I]
  exact frzO_gr _ _ _ _ rfl (by simp only [getH_S, getH_0, if_true])
end
/-- Is a word before another one? -/
def ltW (a b : Word) : Bool := decide (cmpI a b < 0)
theorem L85 {a b : List Int} {ka kb : SC} (hab : a.length = b.length) (hb : a.length < 4611686018427387904) {e : List V} (h : e.length = 40 ∧ getE e 0 = ints a ka ∧ getE e 1 = ints b kb ∧ getE e 5 = .int .i64 (0 : Nat)) :
    ∃ ex e' H' g', X AP (.inl (some 0) B85_1) ⟨e, [], 0, none⟩ = some (ex, ⟨e', H', g', none⟩) ∧ (ex = .exit 0 ∧ lexI a b = 0 ∧ e'.length = 40 ∨ ex = .ret ∧ getE e' 4 = .int .i64 (if lexI a b < 0 then 1 else 0)) := by
  refine loopR (fun k e H g => ∃ i : Nat, k + i = a.length ∧ (e.length = 40 ∧ getE e 0 = ints a ka ∧ getE e 1 = ints b kb ∧ getE e 5 = .int .i64 i) ∧ lexI a b = lexI (a.drop i) (b.drop i)) _ ?_ a.length e [] 0 ⟨0, by omega, h, by simp⟩
  rintro k e H g ⟨i, hk, ⟨he, h0, h1, h5⟩, hl⟩
  unfold B85_1
  have w1 : i < a.length → IntKind.i64.wrap ((i : Int) + 1) = ((i + 1 : Nat) : Int) := fun _ => by rw [wrap64 (by omega) (by omega)]; rfl
  by_cases hi : i < a.length
  · have w1 := w1 hi
    rw [lexI_drop hi (by omega)] at hl
    by_cases h2 : a.getD i 0 < b.getD i 0
    · have h3 : ¬ a.getD i 0 = b.getD i 0 := by omega
      simp (disch := first | assumption | decide | omega | (refine id ?_; simp (disch := decide) only [Zbj, Zbi, Zbk, List.mem_cons, List.not_mem_nil, or_false, false_or, forall_eq, forall_eq_or_imp, false_implies, implies_true, not_false_eq_true, and_self, and_true, true_and, not_or]; first | done | omega) | (refine id ?_; simp only [go_sem, Zbl, Zbf, Zbg, Zap, Zaq, Nat.add_assoc, List.length_map, List.length_range, Nat.reduceAdd, *]; first | done | decide | omega)) only [go_sem, Nat.reduceAdd, Nat.reduceMul, Nat.reduceSub, Nat.reduceLeDiff, Nat.reduceLT, Nat.reduceEqDiff, h0, h1, h5, he, Zaz, Zba, Zbd, List.getD_cons_zero, Zbb, Zbc, Zaw, Zax, Zay, Zaa, Zab, appA_I]
      rw [if_pos h2] at hl
      exact ⟨_, _, _, _, rfl, .inr ⟨by simp, .inr ⟨rfl, by rw [hl]; simp (disch := first | decide | (simp only [Zbe, *]; omega)) only [Zam, Zan, Zbe]; rfl⟩⟩⟩
    · by_cases h3 : b.getD i 0 < a.getD i 0
      · have h4 : ¬ a.getD i 0 = b.getD i 0 := by omega
        simp (disch := first | assumption | decide | omega | (refine id ?_; simp (disch := decide) only [Zbj, Zbi, Zbk, List.mem_cons, List.not_mem_nil, or_false, false_or, forall_eq, forall_eq_or_imp, false_implies, implies_true, not_false_eq_true, and_self, and_true, true_and, not_or]; first | done | omega) | (refine id ?_; simp only [go_sem, Zbl, Zbf, Zbg, Zap, Zaq, Nat.add_assoc, List.length_map, List.length_range, Nat.reduceAdd, *]; first | done | decide | omega)) only [go_sem, Nat.reduceAdd, Nat.reduceMul, Nat.reduceSub, Nat.reduceLeDiff, Nat.reduceLT, Nat.reduceEqDiff, h0, h1, h5, he, Zaz, Zba, Zbd, List.getD_cons_zero, Zbb, Zbc, Zaw, Zax, Zay, Zaa, Zab, appA_I]
        rw [if_neg h2, if_pos h3] at hl
        exact ⟨_, _, _, _, rfl, .inr ⟨by simp, .inr ⟨rfl, by rw [hl]; simp (disch := first | decide | (simp only [Zbe, *]; omega)) only [Zam, Zan, Zbe]; rfl⟩⟩⟩
      · have h4 : a.getD i 0 = b.getD i 0 := by omega
        simp (disch := first | assumption | decide | omega | (refine id ?_; simp (disch := decide) only [Zbj, Zbi, Zbk, List.mem_cons, List.not_mem_nil, or_false, false_or, forall_eq, forall_eq_or_imp, false_implies, implies_true, not_false_eq_true, and_self, and_true, true_and, not_or]; first | done | omega) | (refine id ?_; simp only [go_sem, Zbl, Zbf, Zbg, Zap, Zaq, Nat.add_assoc, List.length_map, List.length_range, Nat.reduceAdd, *]; first | done | decide | omega)) only [go_sem, Nat.reduceAdd, Nat.reduceMul, Nat.reduceSub, Nat.reduceLeDiff, Nat.reduceLT, Nat.reduceEqDiff, h0, h1, h5, he, w1, Zaz, Zba, Zbd, List.getD_cons_zero, Zbb, Zbc, Zaw, Zax, Zay, Zaa, Zab, appA_I]
        rw [if_neg h2, if_neg h3] at hl
        exact ⟨_, _, _, _, rfl, .inl ⟨rfl, k - 1, by omega, i + 1, by omega, ⟨(by simp (disch := first | decide | (simp only [Zbe, *]; omega)) only [Zam, Zan, Zbe, he] <;> rfl), (by simp (disch := first | decide | (simp only [Zbe, *]; omega)) only [Zam, Zan, Zbe, h0] <;> rfl), (by simp (disch := first | decide | (simp only [Zbe, *]; omega)) only [Zam, Zan, Zbe, h1] <;> rfl), (by simp (disch := first | decide | (simp only [Zbe, *]; omega)) only [Zam, Zan, Zbe, he] <;> rfl)⟩, hl⟩⟩
  · simp (disch := first | assumption | decide | omega | (refine id ?_; simp only [go_sem, Zbl, Zbf, Zbg, Zap, Zaq, Nat.add_assoc, List.length_map, List.length_range, Nat.reduceAdd, *]; first | done | decide | omega)) only [go_sem, Nat.reduceAdd, Nat.reduceMul, Nat.reduceSub, Nat.reduceLeDiff, Nat.reduceLT, Nat.reduceEqDiff, h0, h1, h5, he]
    have hi' : a.length ≤ i := by omega
    rw [List.drop_eq_nil_of_le hi', List.drop_eq_nil_of_le (by omega)] at hl
    exact ⟨_, _, _, _, rfl, .inr ⟨by simp, .inl ⟨rfl, hl, (by simp (disch := first | decide | (simp only [Zbe, *]; omega)) only [Zam, Zan, Zbe, he] <;> rfl)⟩⟩⟩
theorem f85 (a b : List Int) (ka kb : SC) (hb : a.length < 4611686018427387904) : callI AP (X AP) false 85 [ints a ka, ints b kb] = some (.int .i64 (if ltW a b then 1 else 0), none) := by
  obtain ⟨e, he, hg, hx⟩ := Zad AP85 (args := [ints a ka, ints b kb]) rfl (by decide)
  have he : e.length = 40 := he
  have h0 : getE e 0 = ints a ka := hg 0 (by simp only [List.length_cons]; omega)
  have h1 : getE e 1 = ints b kb := hg 1 (by simp only [List.length_cons]; omega)
  rw [hx]; clear hx hg; unfold c85
  unfold ltW cmpI
  by_cases h2 : a.length < b.length
  · simp (disch := first | assumption | decide | omega | (refine id ?_; simp only [go_sem, Zbl, Zbf, Zbg, Zap, Zaq, Nat.add_assoc, List.length_map, List.length_range, Nat.reduceAdd, *]; first | done | decide | omega)) only [go_sem, Nat.reduceAdd, Nat.reduceMul, Nat.reduceSub, Nat.reduceLeDiff, Nat.reduceLT, Nat.reduceEqDiff, h0, h1]
    try simp [h2]
  · by_cases h3 : b.length < a.length
    · simp (disch := first | assumption | decide | omega | (refine id ?_; simp only [go_sem, Zbl, Zbf, Zbg, Zap, Zaq, Nat.add_assoc, List.length_map, List.length_range, Nat.reduceAdd, *]; first | done | decide | omega)) only [go_sem, Nat.reduceAdd, Nat.reduceMul, Nat.reduceSub, Nat.reduceLeDiff, Nat.reduceLT, Nat.reduceEqDiff, h0, h1]
      try simp [h2, h3]
    · simp (disch := first | assumption | decide | omega | (refine id ?_; simp only [go_sem, Zbl, Zbf, Zbg, Zap, Zaq, Nat.add_assoc, List.length_map, List.length_range, Nat.reduceAdd, *]; first | done | decide | omega)) only [go_sem, Nat.reduceAdd, Nat.reduceMul, Nat.reduceSub, Nat.reduceLeDiff, Nat.reduceLT, Nat.reduceEqDiff, h0, h1]
      generalize hE : putE _ _ _ = E
      have hEl : E.length = 40 := by subst hE; simp (disch := first | decide | (simp only [Zbe, *]; omega)) only [Zam, Zan, Zbe, he]
      have q0 : getE E 0 = ints a ka := by subst hE; simp (disch := first | decide | (simp only [Zbe, *]; omega)) only [Zam, Zan, Zbe, h0]
      have q1 : getE E 1 = ints b kb := by subst hE; simp (disch := first | decide | (simp only [Zbe, *]; omega)) only [Zam, Zan, Zbe, h1]
      have q5 : getE E 5 = .int .i64 (0 : Nat) := by subst hE; simp (disch := first | decide | (simp only [Zbe, *]; omega)) only [Zam, Zan, Zbe, h0, Int.ofNat_zero, Int.natCast_zero]
      obtain ⟨ex, e', H', g', hx, h⟩ := L85 (by omega) hb ⟨hEl, q0, q1, q5⟩
      rw [hx]
      rcases h with ⟨rfl, hl, he'⟩ | ⟨rfl, hr⟩
      · simp (disch := first | assumption | decide | omega | (refine id ?_; simp only [go_sem, Zbl, Zbf, Zbg, Zap, Zaq, Nat.add_assoc, List.length_map, List.length_range, Nat.reduceAdd, *]; first | done | decide | omega)) only [go_sem, Nat.reduceAdd, Nat.reduceMul, Nat.reduceSub, Nat.reduceLeDiff, Nat.reduceLT, Nat.reduceEqDiff, he']
        try simp [h2, h3, hl]
      · simp (disch := first | assumption | decide | omega | (refine id ?_; simp only [go_sem, Zbl, Zbf, Zbg, Zap, Zaq, Nat.add_assoc, List.length_map, List.length_range, Nat.reduceAdd, *]; first | done | decide | omega)) only [go_sem, Nat.reduceAdd, Nat.reduceMul, Nat.reduceSub, Nat.reduceLeDiff, Nat.reduceLT, Nat.reduceEqDiff, hr]
        try simp [h2, h3]
end Go.AM
