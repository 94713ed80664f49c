/- Machines compared, in the program; Trim, Canonical, IsCanonical. -/
import Derived.Test.YteooegmokbbeoaaGauIa
import Derived.Test.YteooegmokbbeoaaGauBh
import Derived.KernelRfl
set_option linter.unusedVariables false
set_option linter.unusedSimpArgs false
namespace Go.AM
theorem f51 (r1 r2 : List (Int × Int)) (k1 k2 : SC) (hb : r1.length ≤ 1000000) (H : Heap) (γ : Nat) : ∃ K γ', Zdo AP (X AP) 51 [enS fE 2 r1 k1, enS fE 2 r2 k2] H γ = some (.bool (decide (r1 = r2)), H ++ K, γ') := by
  obtain ⟨e, he, hg, hx⟩ := Zcu γ H AP51 (args := [enS fE 2 r1 k1, enS fE 2 r2 k2]) rfl (by decide)
  have he : e.length = 26 := he
  have h0 : getE e 0 = enS fE 2 r1 k1 := hg 0 (by simp only [List.length_cons]; omega)
  have h1 : getE e 1 = enS fE 2 r2 k2 := hg 1 (by simp only [List.length_cons]; omega)
  rw [hx]; clear hx hg; unfold c51
  by_cases hl : r1.length = r2.length
  · simp (disch := first | exact dJ | fail) only [go_sem, Nat.reduceAdd, Nat.reduceMul, Nat.reduceSub, Nat.reduceLeDiff, Nat.reduceLT, Nat.reduceEqDiff, h0, h1, he]
    generalize hE : putE _ _ _ = E
    have hEl : E.length = 26 := by subst hE; simp (disch := first | exact dG | fail) only [Zab, Zaa, Zac, he]
    have p0 : getE E 0 = enS fE 2 r1 k1 := by subst hE; exact gQ h0
    have p1 : getE E 1 = enS fE 2 r2 k2 := by subst hE; exact gQ h1
    have p12 : getE E 12 = .int .i64 r1.length := by subst hE; exact gZ he
    have p13 : getE E 13 = .int .i64 (0 : Nat) := by subst hE; exact gZ he
    have key : ∃ ex e' H' g', X AP (.inl (some H.length) Yhi) ⟨E, H, γ, none⟩ = some (ex, ⟨e', H', g', none⟩) ∧ H' = H ∧ (ex = .exit 0 ∧ e'.length = 26 ∧ r1 = r2 ∨ ex = .ret ∧ getE e' 4 = .bool false ∧ r1 ≠ r2) := by
      refine Zbx (fun k e H' g => ∃ (i : Nat), k + i = r1.length ∧ (e.length = 26 ∧ getE e 0 = enS fE 2 r1 k1 ∧ getE e 1 = enS fE 2 r2 k2 ∧ getE e 12 = .int .i64 r1.length ∧ getE e 13 = .int .i64 i) ∧ H' = H ∧ ∀ j, j < i → r1.getD j (0, 0) = r2.getD j (0, 0)) _ ?_ r1.length E _ γ ⟨0, by omega, ⟨hEl, p0, p1, p12, p13⟩, rfl, by intros; omega⟩
      rintro k e H' g ⟨i, hk, ⟨he, h0, h1, h12, h13⟩, rfl, hp⟩
      unfold Yhi
      have w1 : IntKind.i64.wrap ((i : Int) + 1) = ((i + 1 : Nat) : Int) := by rw [Zay (by omega) (by omega)]; rfl
      have hT : H'.take H'.length = H' := List.take_of_length_le (Nat.le_refl _)
      by_cases hlt : i < r1.length
      · by_cases hq : (r1.getD i (0, 0)).1 = (r2.getD i (0, 0)).1 ∧ (r1.getD i (0, 0)).2 = (r2.getD i (0, 0)).2
        · simp (disch := first | exact dJ | fail) only [go_sem, Nat.reduceAdd, Nat.reduceMul, Nat.reduceSub, Nat.reduceLeDiff, Nat.reduceLT, Nat.reduceEqDiff, h0, h1, h12, h13, he, w1, Zan, Zaf, Zai, List.getD_cons_zero, Zam, Zao, Zap, Zah, Zaj, Zae, Zad, Zag, hT]
          refine ⟨_, _, _, _, rfl, .inl ⟨rfl, k - 1, by omega, i + 1, by omega, ⟨gQ he, gQ h0, gQ h1, gQ h12, gQ he⟩, rfl, ?_⟩⟩
          intro j hj
          by_cases hji : j < i
          · exact hp j hji
          · have : j = i := by omega
            subst this
            exact Prod.ext hq.1 hq.2
        · simp (disch := first | exact dJ | fail) only [go_sem, Nat.reduceAdd, Nat.reduceMul, Nat.reduceSub, Nat.reduceLeDiff, Nat.reduceLT, Nat.reduceEqDiff, h0, h1, h12, h13, he, w1, Zan, Zaf, Zai, List.getD_cons_zero, Zam, Zao, Zap, Zah, Zaj, Zae, Zad, Zag, hT]
          exact ⟨_, _, _, _, rfl, .inr ⟨by simp, rfl, .inr ⟨rfl, (gQ he), fun h => hq (by rw [h]; exact ⟨rfl, rfl⟩)⟩⟩⟩
      · simp (disch := first | exact dJ | fail) only [go_sem, Nat.reduceAdd, Nat.reduceMul, Nat.reduceSub, Nat.reduceLeDiff, Nat.reduceLT, Nat.reduceEqDiff, h0, h1, h12, h13, he, w1, Zan, Zaf, Zai, List.getD_cons_zero, Zam, Zao, Zap, Zah, Zaj, Zae, Zad, Zag, hT]
        exact ⟨_, _, _, _, rfl, .inr ⟨by simp, rfl, .inl ⟨rfl, (gQ he), Zkh (0, 0) hl fun j hj => hp j (by omega)⟩⟩⟩
    obtain ⟨ex, e1, H1, g1, hx, rfl, ⟨rfl, he1, hr⟩ | ⟨rfl, h4, hr⟩⟩ := key
    · rw [hx]
      simp (disch := first | exact dJ | fail) only [go_sem, Nat.reduceAdd, Nat.reduceMul, Nat.reduceSub, Nat.reduceLeDiff, Nat.reduceLT, Nat.reduceEqDiff, he1]
      exact ⟨[], _, by rw [List.append_nil] <;> (try simp [hr])⟩
    · rw [hx]
      simp (disch := first | exact dJ | fail) only [go_sem, Nat.reduceAdd, Nat.reduceMul, Nat.reduceSub, Nat.reduceLeDiff, Nat.reduceLT, Nat.reduceEqDiff, h4]
      exact ⟨[], _, by rw [List.append_nil] <;> (try simp [hr])⟩
  · have hr : r1 ≠ r2 := fun h => hl (by rw [h])
    simp (disch := first | exact dJ | fail) only [go_sem, Nat.reduceAdd, Nat.reduceMul, Nat.reduceSub, Nat.reduceLeDiff, Nat.reduceLT, Nat.reduceEqDiff, h0, h1, he]
    exact ⟨[], _, by rw [List.append_nil] <;> (try simp [hr])⟩
theorem f50 (r1 r2 : List (List (Int × Int))) (k1 q1 k2 q2 : SC) (hb : r1.length ≤ 1000000) (hr : ∀ s, s < r1.length → (r1.getD s []).length ≤ 1000000) : Zaq AP (X AP) false 50 [enS (fR q1) 1 r1 k1, enS (fR q2) 1 r2 k2, .fn 51 [] []] = some (.bool (decide (r1 = r2)), none) := by
  obtain ⟨e, he, hg, hx⟩ := Zat AP50 (args := [enS (fR q1) 1 r1 k1, enS (fR q2) 1 r2 k2, .fn 51 [] []]) rfl (by decide)
  have he : e.length = 32 := he
  have h0 : getE e 0 = enS (fR q1) 1 r1 k1 := hg 0 (by simp only [List.length_cons]; omega)
  have h1 : getE e 1 = enS (fR q2) 1 r2 k2 := hg 1 (by simp only [List.length_cons]; omega)
  have h2 : getE e 2 = .fn 51 [] [] := hg 2 (by simp only [List.length_cons]; omega)
  rw [hx]; clear hx hg; unfold c50
  by_cases hl : r1.length = r2.length
  · simp (disch := first | exact dJ | fail) only [go_sem, Nat.reduceAdd, Nat.reduceMul, Nat.reduceSub, Nat.reduceLeDiff, Nat.reduceLT, Nat.reduceEqDiff, h0, h1, h2, he]
    generalize hE : putE _ _ _ = E
    have hEl : E.length = 32 := by subst hE; simp (disch := first | exact dG | fail) only [Zab, Zaa, Zac, he]
    have p1 : getE E 1 = enS (fR q2) 1 r2 k2 := by subst hE; exact gQ h1
    have p2 : getE E 2 = .fn 51 [] [] := by subst hE; exact gQ h2
    have p15 : getE E 15 = enS (fR q1) 1 r1 k1 := by subst hE; exact gZ he
    have p16 : getE E 16 = .int .i64 r1.length := by subst hE; exact gZ he
    have p17 : getE E 17 = .int .i64 (0 : Nat) := by subst hE; exact gZ he
    have key : ∃ ex e' H' g', X AP (.inl none Ydp) ⟨E, [], 0, none⟩ = some (ex, ⟨e', H', g', none⟩) ∧ (ex = .exit 0 ∧ e'.length = 32 ∧ r1 = r2 ∨ ex = .ret ∧ getE e' 6 = .bool false ∧ r1 ≠ r2) := by
      refine Zbx (fun k e H' g => ∃ (i : Nat), k + i = r1.length ∧ (e.length = 32 ∧ getE e 1 = enS (fR q2) 1 r2 k2 ∧ getE e 2 = .fn 51 [] [] ∧ getE e 15 = enS (fR q1) 1 r1 k1 ∧ getE e 16 = .int .i64 r1.length ∧ getE e 17 = .int .i64 i) ∧ ∀ j, j < i → r1.getD j [] = r2.getD j []) _ ?_ r1.length E _ 0 ⟨0, by omega, ⟨hEl, p1, p2, p15, p16, p17⟩, by intros; omega⟩
      rintro k e H' g ⟨i, hk, ⟨he, h1, h2, h15, h16, h17⟩, hp⟩
      unfold Ydp
      have w1 : IntKind.i64.wrap ((i : Int) + 1) = ((i + 1 : Nat) : Int) := by rw [Zay (by omega) (by omega)]; rfl
      by_cases hlt : i < r1.length
      · obtain ⟨K, γ', c51⟩ := f51 (r1.getD i []) (r2.getD i []) q1 q2 (hr i hlt) (H' ++ [none]) (g + 1)
        by_cases hq : r1.getD i [] = r2.getD i []
        · rw [decide_eq_true hq] at c51
          simp (disch := first | exact dJ | fail) only [go_sem, Nat.reduceAdd, Nat.reduceMul, Nat.reduceSub, Nat.reduceLeDiff, Nat.reduceLT, Nat.reduceEqDiff, h1, h2, h15, h16, h17, he, w1, Zan, Zaf, Zai, List.getD_cons_zero, Zam, Zao, Zap, Zah, Zaj, Zae, Zad, Zag, c51]
          refine ⟨_, _, _, _, rfl, .inl ⟨rfl, k - 1, by omega, i + 1, by omega, ⟨gQ he, gQ h1, gQ h2, gQ h15, gQ h16, gQ he⟩, ?_⟩⟩
          intro j hj
          by_cases hji : j < i
          · exact hp j hji
          · have : j = i := by omega
            subst this
            exact hq
        · rw [decide_eq_false hq] at c51
          simp (disch := first | exact dJ | fail) only [go_sem, Nat.reduceAdd, Nat.reduceMul, Nat.reduceSub, Nat.reduceLeDiff, Nat.reduceLT, Nat.reduceEqDiff, h1, h2, h15, h16, h17, he, w1, Zan, Zaf, Zai, List.getD_cons_zero, Zam, Zao, Zap, Zah, Zaj, Zae, Zad, Zag, c51]
          exact ⟨_, _, _, _, rfl, .inr ⟨by simp, .inr ⟨rfl, (gQ he), fun h => hq (by rw [h])⟩⟩⟩
      · simp (disch := first | exact dJ | fail) only [go_sem, Nat.reduceAdd, Nat.reduceMul, Nat.reduceSub, Nat.reduceLeDiff, Nat.reduceLT, Nat.reduceEqDiff, h1, h2, h15, h16, h17, he, w1, Zan, Zaf, Zai, List.getD_cons_zero, Zam, Zao, Zap, Zah, Zaj, Zae, Zad, Zag]
        exact ⟨_, _, _, _, rfl, .inr ⟨by simp, .inl ⟨rfl, (gQ he), Zkh [] hl fun j hj => hp j (by omega)⟩⟩⟩
    obtain ⟨ex, e1, H1, g1, hx, ⟨rfl, he1, hr⟩ | ⟨rfl, h4, hr⟩⟩ := key
    · rw [hx]
      simp (disch := first | exact dJ | fail) only [go_sem, Nat.reduceAdd, Nat.reduceMul, Nat.reduceSub, Nat.reduceLeDiff, Nat.reduceLT, Nat.reduceEqDiff, he1]
      try simp [hr]
    · rw [hx]
      simp (disch := first | exact dJ | fail) only [go_sem, Nat.reduceAdd, Nat.reduceMul, Nat.reduceSub, Nat.reduceLeDiff, Nat.reduceLT, Nat.reduceEqDiff, h4]
      try simp [hr]
  · have hr : r1 ≠ r2 := fun h => hl (by rw [h])
    simp (disch := first | exact dJ | fail) only [go_sem, Nat.reduceAdd, Nat.reduceMul, Nat.reduceSub, Nat.reduceLeDiff, Nat.reduceLT, Nat.reduceEqDiff, h0, h1, h2, he]
    try simp [hr]
section
variable {k k' q q' : SC} {i1 o1 i2 o2 : Nat} {r1 r2 : List (List (Int × Int))}
theorem f36 (h1 : OKM i1 o1 r1) (h2 : OKM i2 o2 r2) : Zaq AP (X AP) false 36 [encM k k' i1 o1 r1, encM q q' i2 o2 r2] = some (.bool (decide (i1 = i2 ∧ o1 = o2 ∧ r1 = r2)), none) := by
  have c1 := f18 (k := k) (k' := k') h1
  have c2 := f18 (k := q) (k' := q') h2
  have n1 := h1.n2
  have c50 := f50 r1 r2 k k' q q' (by omega) (fun s hs => by rw [h1.len s hs]; have := h1.i2; omega)
  obtain ⟨e, he, hg, hx⟩ := Zat AP36 (args := [encM k k' i1 o1 r1, encM q q' i2 o2 r2]) rfl (by decide)
  have he : e.length = 34 := he
  have h0 : getE e 0 = encM k k' i1 o1 r1 := hg 0 (by simp only [List.length_cons]; omega)
  have h1 : getE e 1 = encM q q' i2 o2 r2 := hg 1 (by simp only [List.length_cons]; omega)
  rw [hx]; clear hx hg; unfold c36
  by_cases hi : i1 = i2
  · by_cases ho : o1 = o2
    · by_cases hr : r1 = r2
      · rw [decide_eq_true hr] at c50
        simp (disch := first | exact dJ | fail) only [go_sem, Nat.reduceAdd, Nat.reduceMul, Nat.reduceSub, Nat.reduceLeDiff, Nat.reduceLT, Nat.reduceEqDiff, h0, h1, he, Zan, Zaf, Zai, List.getD_cons_zero, Zam, Zao, Zap, Zah, Zaj, Zae, Zad, Zag, c1, c2, c50, Zed]
        try simp [hi, ho, hr]
      · rw [decide_eq_false hr] at c50
        simp (disch := first | exact dJ | fail) only [go_sem, Nat.reduceAdd, Nat.reduceMul, Nat.reduceSub, Nat.reduceLeDiff, Nat.reduceLT, Nat.reduceEqDiff, h0, h1, he, Zan, Zaf, Zai, List.getD_cons_zero, Zam, Zao, Zap, Zah, Zaj, Zae, Zad, Zag, c1, c2, c50, Zed]
        try simp [hi, ho, hr]
    · simp (disch := first | exact dJ | fail) only [go_sem, Nat.reduceAdd, Nat.reduceMul, Nat.reduceSub, Nat.reduceLeDiff, Nat.reduceLT, Nat.reduceEqDiff, h0, h1, he, Zan, Zaf, Zai, List.getD_cons_zero, Zam, Zao, Zap, Zah, Zaj, Zae, Zad, Zag, c1, c2, c50, Zed]
      try simp [hi, ho]
  · simp (disch := first | exact dJ | fail) only [go_sem, Nat.reduceAdd, Nat.reduceMul, Nat.reduceSub, Nat.reduceLeDiff, Nat.reduceLT, Nat.reduceEqDiff, h0, h1, he, Zan, Zaf, Zai, List.getD_cons_zero, Zam, Zao, Zap, Zah, Zaj, Zae, Zad, Zag, c1, c2, c50, Zed]
    try simp [hi]
end
section
variable {k k' : SC} {ins outs : Nat} {rows : List (List (Int × Int))}
theorem Zur (e : List V) (H : Heap) (t n : Nat) (ag : Bool) (u : Nat) : resV e H [.cell t n ag, .tmp u] = (resP n ag H (getE e t)).map fun v => .tup [v, getE e u] := by
  unfold resV
  simp only [resL]
  cases h : getE e t with
  | ptr i gi off =>
    have : Zjt e H (.cell t n ag) = resC n ag off (getH H i gi) := by
      simp only [Zjt, h]
      cases getH H i gi with
      | none => rfl
      | some o => cases o <;> rfl
    rw [this, Zna]
    cases resC n ag off (getH H i gi) <;> rfl
  | _ => simp [Zjt, h, resP]
theorem Zvb (e : List V) (H : Heap) (t n : Nat) (ag : Bool) (u w : Nat) : resV e H [.cell t n ag, .tmp u, .tmp w] = (resP n ag H (getE e t)).map fun v => .tup [v, getE e u, getE e w] := by
  unfold resV
  simp only [resL]
  cases h : getE e t with
  | ptr i gi off =>
    have : Zjt e H (.cell t n ag) = resC n ag off (getH H i gi) := by
      simp only [Zjt, h]
      cases getH H i gi with
      | none => rfl
      | some o => cases o <;> rfl
    rw [this, Zna]
    cases resC n ag off (getH H i gi) <;> rfl
  | _ => simp [Zjt, h, resP]
theorem Zdu (r : List (Nat × Word)) : (ordR r).length = r.length := by simp [ordR]
theorem f11 (hm : OKM ins outs rows) {r : List (Nat × Word)} (hG : Zip rows ins rows.length (0 : Nat) r) (hrl : r.length ≤ 64) (hF : Fifo rows ins (0 : Nat) [[]] [] r) (hr0 : r ≠ []) : Zaq AP (X AP) false 11 [encM k k' ins outs rows] = some (.tup [encM (.c (some r.length)) (.c (some ins)) ins outs (Znw rows (ordR r)), .int .i64 0], none) := by
  have c18 := f18 (k := k) (k' := k') hm
  have c23 := f23 (k := k) (k' := k') (outs := outs) hm hrl hF
  have hol := Zdu r
  have hne : ordR r ≠ [] := by intro h; rw [h] at hol; simp at hol; exact hr0 (List.eq_nil_of_length_eq_zero hol.symm)
  have c32 := f32 (k := k) (k' := k') hm (l := ordR r) (kl := .n) (by omega) hne (fun x hx => by
    obtain ⟨y, hy, rfl⟩ := List.mem_map.mp hx
    obtain ⟨ys, zs, hz⟩ := List.append_of_mem hy
    have := (hG ys y zs hz).1
    omega)
  rw [hol] at c32
  obtain ⟨e, he, hg, hx⟩ := Zat AP11 (args := [encM k k' ins outs rows]) rfl (by decide)
  have he : e.length = 15 := he
  have h0 : getE e 0 = encM k k' ins outs rows := hg 0 (by simp only [List.length_cons]; omega)
  rw [hx]; clear hx hg; unfold c11
  simp (disch := first | exact dK | fail) only [go_sem, Nat.reduceAdd, Nat.reduceMul, Nat.reduceSub, Nat.reduceLeDiff, Nat.reduceLT, Nat.reduceEqDiff, h0, he, Zan, Zaf, Zai, List.getD_cons_zero, Zam, Zao, Zap, Zah, Zaj, Zae, Zad, Zag, c18, c23, c32, Zur, Zbc]
theorem f10 (hm : OKM ins outs rows) {L : List Int} (hl : L.length ≤ 64) (hne : L ≠ []) (hr : ∀ x ∈ L, 0 ≤ x ∧ x < rows.length)
    (c27 : Zaq AP (X AP) false 27 [encM k k' ins outs rows] = some (.tup [ints L (.c (some L.length)), .int .i64 0], none)) :
    Zaq AP (X AP) false 10 [encM k k' ins outs rows] = some (.tup [encM (.c (some L.length)) (.c (some ins)) ins outs (Znw rows L), ints L (.c (some L.length)), .int .i64 0], none) := by
  have c32 := f32 (k := k) (k' := k') hm (l := L) (kl := .c (some L.length)) (by omega) hne hr
  obtain ⟨e, he, hg, hx⟩ := Zat AP10 (args := [encM k k' ins outs rows]) rfl (by decide)
  have he : e.length = 20 := he
  have h0 : getE e 0 = encM k k' ins outs rows := hg 0 (by simp only [List.length_cons]; omega)
  rw [hx]; clear hx hg; unfold c10
  simp (disch := first | exact dJ | fail) only [go_sem, Nat.reduceAdd, Nat.reduceMul, Nat.reduceSub, Nat.reduceLeDiff, Nat.reduceLT, Nat.reduceEqDiff, h0, he, Zan, Zaf, Zai, List.getD_cons_zero, Zam, Zao, Zap, Zah, Zaj, Zae, Zad, Zag, c27, c32, Zvb]
theorem f16 (hm : OKM ins outs rows) {C : List (List (Int × Int))} {n : Nat} (hC : OKM ins outs C) (c11 : Zaq AP (X AP) false 11 [encM k k' ins outs rows] = some (.tup [encM (.c (some n)) (.c (some ins)) ins outs C, .int .i64 0], none)) :
    Zaq AP (X AP) false 16 [encM k k' ins outs rows] = some (.tup [.bool (decide (C = rows)), .int .i64 0], none) := by
  have c36 := f36 (k := .c (some n)) (k' := .c (some ins)) (q := k) (q' := k') hC hm
  obtain ⟨e, he, hg, hx⟩ := Zat AP16 (args := [encM k k' ins outs rows]) rfl (by decide)
  have he : e.length = 19 := he
  have h0 : getE e 0 = encM k k' ins outs rows := hg 0 (by simp only [List.length_cons]; omega)
  rw [hx]; clear hx hg; unfold c16
  simp (disch := first | exact dJ | fail) only [go_sem, Nat.reduceAdd, Nat.reduceMul, Nat.reduceSub, Nat.reduceLeDiff, Nat.reduceLT, Nat.reduceEqDiff, h0, he, Zan, Zaf, Zai, List.getD_cons_zero, Zam, Zao, Zap, Zah, Zaj, Zae, Zad, Zag, c11, c36]
  try simp
end
end Go.AM

set_option linter.unusedVariables false
set_option linter.unusedSimpArgs false
namespace Go.AM
set_option maxRecDepth 100000
theorem r38 : ∀ n : Nat, n ≤ 6 → Zaq AP (exec AP 200) true 38 [.arr [.int .i64 (-1)] 1 1 (some 1), .int .i64 n] = some (.sl 1 1 1 0 n (some n), some ((List.replicate n (-1 : Int)).flatMap fI, .fixed))
  | 0, _ => by kernel_rfl
  | 1, _ => by kernel_rfl
  | 2, _ => by kernel_rfl
  | 3, _ => by kernel_rfl
  | 4, _ => by kernel_rfl
  | 5, _ => by kernel_rfl
  | 6, _ => by kernel_rfl
  | n + 7, h => absurd h (by omega)
theorem r37 : Zaq AP (exec AP 60) false 37 [.arr [.int .i64 0, .int .i64 0] 1 2 (some 2)] = some (.int .i64 0, none) := by kernel_rfl
section
variable {P : Zce} {own : List (Nat × Nat)} {id g : Nat} {H : Heap}
theorem Yfl (l : List Int) : Zcz.flatL (l.flatMap fI) = true := by
  induction l with
  | nil => simp [Zcz.flatL]
  | cons a t ih => simp only [List.flatMap_cons, fI, List.cons_append, List.nil_append, Zcz.flatL, Zcz, Bool.true_and]; exact ih
/-- A call that makes a slice out of one that lies in the heap. -/
theorem Yaa {n : Nat} {i1 g1 : Nat} (x : Opd) (ys : List Opd) (f i gi sz : Nat) (v : V) (cs : List V) (c : Option Nat) (hg : getH H i gi = some (.cells cs .fixed)) (hn : n * sz = cs.length) (hp : Zak.pureL cs = true) (hv : Zak v = true) (l : List Int) (m : Nat)
    (hc : Zaq P (X P) true f [.arr cs sz n c, v] = some (.sl i1 g1 1 0 m (some m), some (l.flatMap fI, .fixed))) (hi : id < H.length) :
    opR P own id g (.call .fresh x ys) [.fn f [] [], .sl i gi sz 0 n c, v] H = some (.sl id g 1 0 m (some m), H.set id (some (g, .cells (l.flatMap fI) .fixed)), [i], [id]) := by
  have hnp : Zak.pureL [.sl i gi sz 0 n c, v] = false := by simp [Zax, Zak]
  show runP (Zbg false 9 ([] ++ [.sl i gi sz 0 n c, v] ++ []) fun args' => match Zaq P (X P) true f args' with
      | some (.sl _ _ sz off len cap, some (cs, kd)) => if Zak.pureL ([] ++ [.sl i gi sz 0 n c, v] ++ []) || Zcz.flatL cs then
          .wr id (some (g, .cells (cs.drop off) kd)) (.ret (.sl id g sz 0 len cap)) else .no
      | some (v', none) => if Zak.pureL ([] ++ [.sl i gi sz 0 n c, v] ++ []) || Zcz v' then .ret v' else .no
      | _ => .no) H = _
  simp only [List.nil_append, List.append_nil, Zbg, hnp, Bool.false_eq_true, if_false]
  have hs : Zfm H [.sl i gi sz 0 n c, v] = some ([i] ++ ([] ++ []), [.arr cs sz n c, v]) := by
    rw [Zca, Zca, Zde, Zfr, hg, Zdg rfl hn hp, Zdx hv]; rfl
  rw [Zhh (d := 8) hs]
  simp only [hc, Yfl, Bool.or_true, if_true, runP, hi, List.drop_zero, Option.map_some, List.append_nil]
end
theorem frzF_I {P : Zce} {own : List (Nat × Nat)} {id g : Nat} {H : Heap} {n : Nat} (op : Aop) (fv : V) (i gi : Nat) (c : Option Nat) (l : List Int) (hn : n = l.length) (hg : getH H i gi = some (.cells (l.flatMap fI) .fixed)) : frzF P own id g op fv i gi 1 n c H (some (.cells (l.flatMap fI) .fixed)) = (opR P own id g op [fv, ints l (.c c)] (H.set i (some (gi, .cells (l.flatMap fI) .froz)))).map fun q => (q.1, q.2.1, i :: q.2.2.1, i :: q.2.2.2) := by
  unfold frzF
  simp only
  rw [Zgo (f := fI) 8 i gi c l .fixed _ rfl hn hg]
  rfl
theorem f26c {l : List Int} (h : l ≠ []) : Zaq AP (X AP) false 26 [ints l (.c (some l.length))] = some (ints l (.c (some l.length)), none) := by
  have hs : slcV 1 (enS fI 1 l (.c (some l.length))) none (some (.int .i64 (l.length : Int))) (some (.int .i64 (l.length : Int))) = some (enS fI 1 l (.c (some l.length))) := by
    rcases Zqk (f := fI) l (.c (some l.length)) .i64 .i64 (by intro o ho c hc; cases ho; cases hc; exact Nat.le_refl _) with h1 | h1
    · rw [h1]; cases l with
      | nil => exact absurd rfl h
      | cons a t => rfl
    · exact absurd h1.1 h
  obtain ⟨e, he, hg, hx⟩ := Zat AP26 (args := [ints l (.c (some l.length))]) rfl (by decide)
  have he : e.length = 9 := he
  have h0 : getE e 0 = ints l (.c (some l.length)) := hg 0 (by simp only [List.length_cons]; omega)
  rw [hx]; clear hx hg; unfold c26
  simp (disch := first | exact dJ | fail) only [go_sem, Nat.reduceAdd, Nat.reduceMul, Nat.reduceSub, Nat.reduceLeDiff, Nat.reduceLT, Nat.reduceEqDiff, h0, he, Zan, Zaf, Zai, List.getD_cons_zero, Zam, Zao, Zap, Zah, Zaj, Zae, Zad, Zag, hs]
section
variable {k k' q q' : SC} {ia oa ib ob : Nat} {ra rb : List (List (Int × Int))}
/-- Which state of the other machine belongs to each one. -/
def isoL (n : Nat) (la lb : List Int) : Nat → List Int
  | 0 => List.replicate n (-1)
  | j + 1 => (isoL n la lb j).set (la.getD j 0).toNat (lb.getD j 0)
theorem Zij (n : Nat) (la lb : List Int) : ∀ j, (isoL n la lb j).length = n
  | 0 => by simp [isoL]
  | j + 1 => by simp [isoL, Zij n la lb j]
theorem Zlx {l : List Int} {i : Nat} {b : Int} (h : i < l.length) : Zbf (l.flatMap fI) (i * 1) [.int .i64 b] = (l.set i b).flatMap fI := Zeo (f := fI) l i b h
theorem f29_no (ha : OKM ia oa ra) (hb : OKM ib ob rb) {la lb : List Int} {CA CB : List (List (Int × Int))} {na nb ma mb : Nat} (hCA : OKM ia oa CA) (hCB : OKM ib ob CB)
    (ca : Zaq AP (X AP) false 23 [encM k k' ia oa ra] = some (ints la .n, none)) (cb : Zaq AP (X AP) false 23 [encM q q' ib ob rb] = some (ints lb .n, none))
    (cc : Zaq AP (X AP) false 32 [encM k k' ia oa ra, ints la .n] = some (encM (.c (some na)) (.c (some ma)) ia oa CA, none)) (cd : Zaq AP (X AP) false 32 [encM q q' ib ob rb, ints lb .n] = some (encM (.c (some nb)) (.c (some mb)) ib ob CB, none))
    (hne : ¬ (ia = ib ∧ oa = ob ∧ CA = CB)) : Zaq AP (X AP) false 29 [encM k k' ia oa ra, encM q q' ib ob rb] = some (.tup [.nils, .bool false, .int .i64 0], none) := by
  have c1 := f18 (k := k) (k' := k') ha
  have c2 := f18 (k := q) (k' := q') hb
  have c37 := Zbo (Zet 60) r37
  have c36 := f36 (k := .c (some na)) (k' := .c (some ma)) (q := .c (some nb)) (q' := .c (some mb)) hCA hCB
  rw [decide_eq_false hne] at c36
  have hiso : ∀ (own : List (Nat × Nat)) (id g : Nat) (H : Heap) (x : Opd) (ys : List Opd) (i gi : Nat), getH H i gi = some (.cells [.int .i64 0, .int .i64 0] .fixed) → opR AP own id g (.call .iso x ys) [.fn 37 [] [], .sl i gi 1 0 2 (some 2)] H = some (.int .i64 0, H, [i], []) := fun own id g H x ys i gi hg => by
    rw [Zor x ys 37 _ [.arr [.int .i64 0, .int .i64 0] 1 2 (some 2)] [i] (by rw [Zca, Zde, Zfr, hg, Zdg rfl rfl (by simp [Zax, Zbi, Zbe])]; rfl) (by simp [Zax, Zft]), c37]
    exact Ziv ..
  obtain ⟨e, he, hg, hx⟩ := Zat AP29 (args := [encM k k' ia oa ra, encM q q' ib ob rb]) rfl (by decide)
  have he : e.length = 56 := he
  have h0 : getE e 0 = encM k k' ia oa ra := hg 0 (by simp only [List.length_cons]; omega)
  have h1 : getE e 1 = encM q q' ib ob rb := hg 1 (by simp only [List.length_cons]; omega)
  rw [hx]; clear hx hg; unfold c29
  simp (disch := first | exact dK | fail) only [go_sem, Nat.reduceAdd, Nat.reduceMul, Nat.reduceSub, Nat.reduceLeDiff, Nat.reduceLT, Nat.reduceEqDiff, h0, h1, he, Zan, Zaf, Zai, List.getD_cons_zero, Zam, Zao, Zap, Zah, Zaj, Zae, Zad, Zag, c1, c2, hiso, ca, cb, cc, cd, c36, Zbc]
theorem Yfu (ha : OKM ia oa ra) (hb : OKM ib ob rb) (hn6 : ra.length ≤ 6) {la lb : List Int} {CA CB : List (List (Int × Int))} {na nb ma mb : Nat} (hCA : OKM ia oa CA) (hCB : OKM ib ob CB) (hla : la.length ≤ 64) (hlab : la.length ≤ lb.length) (hra : ∀ x ∈ la, 0 ≤ x ∧ x < ra.length)
    (ca : Zaq AP (X AP) false 23 [encM k k' ia oa ra] = some (ints la .n, none)) (cb : Zaq AP (X AP) false 23 [encM q q' ib ob rb] = some (ints lb .n, none))
    (cc : Zaq AP (X AP) false 32 [encM k k' ia oa ra, ints la .n] = some (encM (.c (some na)) (.c (some ma)) ia oa CA, none)) (cd : Zaq AP (X AP) false 32 [encM q q' ib ob rb, ints lb .n] = some (encM (.c (some nb)) (.c (some mb)) ib ob CB, none))
    (hne : ia = ib ∧ oa = ob ∧ CA = CB) : Zaq AP (X AP) false 29 [encM k k' ia oa ra, encM q q' ib ob rb] = some (.tup [ints (isoL ra.length la lb la.length) (.c (some ra.length)), .bool true, .int .i64 0], none) := by
  have c1 := f18 (k := k) (k' := k') ha
  have c2 := f18 (k := q) (k' := q') hb
  have c37 := Zbo (Zet 60) r37
  have c36 := f36 (k := .c (some na)) (k' := .c (some ma)) (q := .c (some nb)) (q' := .c (some mb)) hCA hCB
  rw [decide_eq_true hne] at c36
  have hiso : ∀ (own : List (Nat × Nat)) (id g : Nat) (H : Heap) (x : Opd) (ys : List Opd) (i gi : Nat), getH H i gi = some (.cells [.int .i64 0, .int .i64 0] .fixed) → opR AP own id g (.call .iso x ys) [.fn 37 [] [], .sl i gi 1 0 2 (some 2)] H = some (.int .i64 0, H, [i], []) := fun own id g H x ys i gi hg => by
    rw [Zor x ys 37 _ [.arr [.int .i64 0, .int .i64 0] 1 2 (some 2)] [i] (by rw [Zca, Zde, Zfr, hg, Zdg rfl rfl (by simp [Zax, Zbi, Zbe])]; rfl) (by simp [Zax, Zft]), c37]
    exact Ziv ..
  have c38 := Zbo (Zet 200) (r38 ra.length hn6)
  have hfr : ∀ (own : List (Nat × Nat)) (id g : Nat) (H : Heap) (x : Opd) (ys : List Opd) (i gi : Nat), getH H i gi = some (.cells [.int .i64 (-1)] .fixed) → id < H.length → opR AP own id g (.call .fresh x ys) [.fn 38 [] [], .sl i gi 1 0 1 (some 1), .int .i64 ra.length] H = some (.sl id g 1 0 ra.length (some ra.length), H.set id (some (g, .cells ((List.replicate ra.length (-1 : Int)).flatMap fI) .fixed)), [i], [id]) := fun own id g H x ys i gi hg hi =>
    Yaa x ys 38 i gi 1 (.int .i64 ra.length) [.int .i64 (-1)] (some 1) hg rfl (by simp [Zax, Zbi, Zbe]) (Zbe ..) _ _ c38 hi
  have hn1 := ha.n1
  obtain ⟨e, he, hg, hx⟩ := Zat AP29 (args := [encM k k' ia oa ra, encM q q' ib ob rb]) rfl (by decide)
  have he : e.length = 56 := he
  have h0 : getE e 0 = encM k k' ia oa ra := hg 0 (by simp only [List.length_cons]; omega)
  have h1 : getE e 1 = encM q q' ib ob rb := hg 1 (by simp only [List.length_cons]; omega)
  rw [hx]; clear hx hg; unfold c29
  simp (disch := first | exact dK | fail) only [go_sem, Nat.reduceAdd, Nat.reduceMul, Nat.reduceSub, Nat.reduceLeDiff, Nat.reduceLT, Nat.reduceEqDiff, h0, h1, he, Zan, Zaf, Zai, List.getD_cons_zero, Zam, Zao, Zap, Zah, Zaj, Zae, Zad, Zag, c1, c2, hiso, ca, cb, cc, cd, c36, Zbc, hfr]
  generalize hE : putE _ _ _ = E
  have hEl : E.length = 56 := by subst hE; simp (disch := first | exact dG | fail) only [Zab, Zaa, Zac, he]
  have p8 : getE E 8 = ints la .n := by subst hE; exact gQ he
  have p9 : getE E 9 = ints lb .n := by subst hE; exact gQ he
  have p10 : getE E 10 = .sl 12 12 1 0 ra.length (some ra.length) := by subst hE; exact gQ he
  have p39 : getE E 39 = ints la .n := by subst hE; exact gQ he
  have p40 : getE E 40 = .int .i64 la.length := by subst hE; exact gQ he
  have p41 : getE E 41 = .int .i64 (0 : Nat) := by subst hE; exact gZ he
  generalize hP : [some (0, O.cells [V.int IntKind.i64 ↑ia, V.int IntKind.i64 ↑oa, enS (fR k') 1 ra k] Kd.fixed),
                  some (1, O.cells [V.int IntKind.i64 ↑ib, V.int IntKind.i64 ↑ob, enS (fR q') 1 rb q] Kd.fixed), none,
                  none, some (4, O.cells [V.int IntKind.i64 0, V.int IntKind.i64 0] Kd.fixed), none, none, none, none,
                  none, none, some (11, O.cells [V.int IntKind.i64 (-1)] Kd.fixed),
                  some (12, O.cells (List.flatMap fI (List.replicate ra.length (-1))) Kd.fixed)] = HH
  have hHl : HH.length = 13 := by subst hP; rfl
  have hHg : HH = HH.set 12 (some (12, .cells ((isoL ra.length la lb 0).flatMap fI) .fixed)) := by subst hP; rfl
  have key : ∃ ex e' H' g', X AP (.inl (some 13) Yhd) ⟨E, HH, 13, none⟩ = some (ex, ⟨e', H', g', none⟩) ∧ ex = .exit 0 ∧ H' = HH.set 12 (some (12, .cells ((isoL ra.length la lb la.length).flatMap fI) .fixed)) ∧ (e'.length = 56 ∧ getE e' 10 = .sl 12 12 1 0 ra.length (some ra.length)) := by
    refine Zbx (fun k1 e H g => ∃ (j : Nat), k1 + j = la.length ∧ (e.length = 56 ∧ getE e 8 = ints la .n ∧ getE e 9 = ints lb .n ∧ getE e 10 = .sl 12 12 1 0 ra.length (some ra.length) ∧ getE e 39 = ints la .n ∧ getE e 40 = .int .i64 la.length ∧ getE e 41 = .int .i64 j) ∧ H = HH.set 12 (some (12, .cells ((isoL ra.length la lb j).flatMap fI) .fixed))) _ ?_ la.length E HH 13 ⟨0, by omega, ⟨hEl, p8, p9, p10, p39, p40, p41⟩, hHg⟩
    rintro k1 e H g ⟨j, hk, ⟨he, h8, h9, h10, h39, h40, h41⟩, rfl⟩
    clear hHg hP
    unfold Yhd
    have w1 : IntKind.i64.wrap ((j : Int) + 1) = ((j + 1 : Nat) : Int) := by rw [Zay (by omega) (by omega)]; rfl
    have hll := Zij ra.length la lb j
    have hG : getH (HH.set 12 (some (12, .cells ((isoL ra.length la lb j).flatMap fI) .fixed))) 12 12 = some (.cells ((isoL ra.length la lb j).flatMap fI) .fixed) := Zas _ (by omega)
    have hT : (HH.set 12 (some (12, .cells ((isoL ra.length la lb j).flatMap fI) .fixed))).take 13 = HH.set 12 (some (12, .cells ((isoL ra.length la lb j).flatMap fI) .fixed)) := List.take_of_length_le (by rw [List.length_set]; omega)
    by_cases hlt : j < la.length
    · have hx := hra (la.getD j 0) (Zci 0 hlt)
      obtain ⟨s, hs⟩ : ∃ s : Nat, la.getD j 0 = s := ⟨(la.getD j 0).toNat, by omega⟩
      have hfl : ((isoL ra.length la lb j).flatMap fI).length = ra.length := by rw [Zbn (f := fI), hll]; omega
      have hsp : Zbf ((isoL ra.length la lb j).flatMap fI) (s * 1) [.int .i64 (lb.getD j 0)] = (isoL ra.length la lb (j + 1)).flatMap fI := by
        rw [Zlx (by omega)]; simp only [isoL, hs, Int.toNat_natCast]
      simp (disch := first | exact dJ | fail) only [go_sem, Nat.reduceAdd, Nat.reduceMul, Nat.reduceSub, Nat.reduceLeDiff, Nat.reduceLT, Nat.reduceEqDiff, h8, h9, h10, h39, h40, h41, he, hT, hG, w1, Zan, Zaf, Zai, List.getD_cons_zero, Zam, Zao, Zap, Zah, Zaj, Zae, Zad, Zag, hs, hsp, hfl, List.set_set]
      exact ⟨_, _, _, _, rfl, .inl ⟨rfl, k1 - 1, by omega, j + 1, by omega, ⟨gQ he, gQ h8, gQ h9, gQ h10, gQ h39, gQ h40, gQ he⟩, rfl⟩⟩
    · have hj : j = la.length := by omega
      subst hj
      simp (disch := first | exact dJ | fail) only [go_sem, Nat.reduceAdd, Nat.reduceMul, Nat.reduceSub, Nat.reduceLeDiff, Nat.reduceLT, Nat.reduceEqDiff, h8, h9, h10, h39, h40, h41, he, hT, hG, w1]
      exact ⟨_, _, _, _, rfl, .inr ⟨by simp, rfl, rfl, gQ he, gQ h10⟩⟩
  obtain ⟨ex, e1, H1, g1, hx, rfl, rfl, he1, q10⟩ := key
  have hll := Zij ra.length la lb la.length
  have c26 := f26c (l := isoL ra.length la lb la.length) (by intro h; rw [h] at hll; simp at hll; omega)
  have hG : getH (HH.set 12 (some (12, .cells ((isoL ra.length la lb la.length).flatMap fI) .fixed))) 12 12 = some (.cells ((isoL ra.length la lb la.length).flatMap fI) .fixed) := Zas _ (by omega)
  rw [hx]
  generalize isoL ra.length la lb la.length = L at *
  rw [← hll]
  rw [← hll] at q10
  have hHl' : (HH.set 12 (some (12, O.cells (List.flatMap fI L) Kd.fixed))).length = 13 := by rw [List.length_set]; exact hHl
  generalize HH.set 12 (some (12, O.cells (List.flatMap fI L) Kd.fixed)) = H2 at *
  clear hx hHg hP
  have hG2 : getH (H2 ++ [none]) 12 12 = some (.cells (L.flatMap fI) .fixed) := (Zar _ (by omega)).trans hG
  simp (disch := first | exact dJ | fail) only [go_sem, Nat.reduceAdd, Nat.reduceMul, Nat.reduceSub, Nat.reduceLeDiff, Nat.reduceLT, Nat.reduceEqDiff, q10, he1, hG2, Zkm, frzF_I, Zed, c26]
end
end Go.AM

set_option linter.unusedVariables false
set_option linter.unusedSimpArgs false
namespace Go.AM
theorem Zwb {α : Type} (f : α → List V) (sz : Nat) (l : List α) (n : Nat) : capV (enS f sz l (.c (some n))) = some (.int .i64 n) := rfl
section
variable {q q' : SC} {ins outs i2 o2 : Nat} {rows r2 : List (List (Int × Int))}
theorem f13 (hb : rows.length ≤ 1000000) {c : Nat} (hc : c ≤ 1000000) (hr : ∀ s, s < rows.length → (rows.getD s []).length = c) : Zaq AP (X AP) false 13 [encM (.c (some rows.length)) (.c (some c)) ins outs rows, .int .i64 0, encM q q' i2 o2 r2] = some (.bool (decide (ins = i2 ∧ outs = o2 ∧ rows = r2)), none) := by
  have c17 := f17 (k := .c (some rows.length)) (k' := .c (some c)) (q := q) (q' := q') (i1 := ins) (o1 := outs) (r1 := rows) (i2 := i2) (o2 := o2) (r2 := r2) hb (fun s hs => by rw [hr s hs]; exact hc)
  obtain ⟨e, he, hg, hx⟩ := Zat AP13 (args := [encM (.c (some rows.length)) (.c (some c)) ins outs rows, .int .i64 0, encM q q' i2 o2 r2]) rfl (by decide)
  have he : e.length = 45 := he
  have h0 : getE e 0 = encM (.c (some rows.length)) (.c (some c)) ins outs rows := hg 0 (by simp only [List.length_cons]; omega)
  have h1 : getE e 1 = .int .i64 0 := hg 1 (by simp only [List.length_cons]; omega)
  have h2 : getE e 2 = encM q q' i2 o2 r2 := hg 2 (by simp only [List.length_cons]; omega)
  rw [hx]; clear hx hg; unfold c13
  by_cases hq : ins = i2 ∧ outs = o2 ∧ rows = r2
  · rw [decide_eq_true hq] at c17
    simp (disch := first | exact dJ | fail) only [go_sem, Nat.reduceAdd, Nat.reduceMul, Nat.reduceSub, Nat.reduceLeDiff, Nat.reduceLT, Nat.reduceEqDiff, h0, h1, h2, he, Zan, Zaf, Zai, List.getD_cons_zero, Zam, Zao, Zap, Zah, Zaj, Zae, Zad, Zag, c17, Zwb]
    generalize hE : putE _ _ _ = E
    have hEl : E.length = 45 := by subst hE; simp (disch := first | exact dG | fail) only [Zab, Zaa, Zac, he]
    have p3 : getE E 3 = .ptr 0 0 0 := by subst hE; exact gQ he
    have p7 : getE E 7 = .int .i64 (0 : Nat) := by subst hE; exact gZ he
    generalize hP : [some (0, O.cells [V.int IntKind.i64 ↑ins, V.int IntKind.i64 ↑outs, enS (fR (SC.c (some c))) 1 rows (SC.c (some rows.length))] Kd.fixed), some (1, O.cells [V.int IntKind.i64 ↑i2, V.int IntKind.i64 ↑o2, enS (fR q') 1 r2 q] Kd.fixed), none] = HH
    have hHl : HH.length = 3 := by subst hP; rfl
    have hHg : getH HH 0 0 = some (.cells [V.int IntKind.i64 ↑ins, V.int IntKind.i64 ↑outs, enS (fR (SC.c (some c))) 1 rows (SC.c (some rows.length))] .fixed) := by subst hP; rfl
    clear hP hE
    have key : ∃ ex e' H' g', X AP (.inl (some 3) Yee) ⟨E, HH, 2 + 1, none⟩ = some (ex, ⟨e', H', g', none⟩) ∧ ex = .exit 0 ∧ e'.length = 45 := by
      refine Zbx (fun k1 e H g => ∃ (j : Nat), k1 + j = rows.length ∧ (e.length = 45 ∧ getE e 3 = .ptr 0 0 0 ∧ getE e 7 = .int .i64 j) ∧ H = HH) _ ?_ rows.length E HH (2 + 1) ⟨0, by omega, ⟨hEl, p3, p7⟩, rfl⟩
      rintro k1 e H g ⟨j, hk, ⟨he, h3, h7⟩, rfl⟩
      unfold Yee
      have w1 : IntKind.i64.wrap ((j : Int) + 1) = ((j + 1 : Nat) : Int) := by rw [Zay (by omega) (by omega)]; rfl
      have hT : H.take 3 = H := List.take_of_length_le (by omega)
      by_cases hlt : j < rows.length
      · have hrow := hr j hlt
        simp (disch := first | exact dJ | fail) only [go_sem, Nat.reduceAdd, Nat.reduceMul, Nat.reduceSub, Nat.reduceLeDiff, Nat.reduceLT, Nat.reduceEqDiff, h3, h7, he, hT, hHg, w1, Zan, Zaf, Zai, List.getD_cons_zero, Zam, Zao, Zap, Zah, Zaj, Zae, Zad, Zag, Zwb, hrow]
        exact ⟨_, _, _, _, rfl, .inl ⟨rfl, k1 - 1, by omega, j + 1, by omega, ⟨gQ he, gQ h3, gQ he⟩, rfl⟩⟩
      · simp (disch := first | exact dJ | fail) only [go_sem, Nat.reduceAdd, Nat.reduceMul, Nat.reduceSub, Nat.reduceLeDiff, Nat.reduceLT, Nat.reduceEqDiff, h3, h7, he, hT, hHg, w1, Zan, Zaf, Zai, List.getD_cons_zero, Zam, Zao, Zap, Zah, Zaj, Zae, Zad, Zag]
        exact ⟨_, _, _, _, rfl, .inr ⟨by simp, rfl, (gQ he)⟩⟩
    obtain ⟨ex, e1, H1, g1, hx, rfl, he1⟩ := key
    rw [hx]
    simp (disch := first | exact dJ | fail) only [go_sem, Nat.reduceAdd, Nat.reduceMul, Nat.reduceSub, Nat.reduceLeDiff, Nat.reduceLT, Nat.reduceEqDiff, he1]
    try simp [hq]
  · rw [decide_eq_false hq] at c17
    simp (disch := first | exact dJ | fail) only [go_sem, Nat.reduceAdd, Nat.reduceMul, Nat.reduceSub, Nat.reduceLeDiff, Nat.reduceLT, Nat.reduceEqDiff, h0, h1, h2, he, Zan, Zaf, Zai, List.getD_cons_zero, Zam, Zao, Zap, Zah, Zaj, Zae, Zad, Zag, c17, Zwb]
    try simp [hq]
end
section
variable {k k' : SC} {ins outs : Nat} {rows : List (List (Int × Int))}
theorem f80 (hm : OKM ins outs rows) : Zaq AP (X AP) false 80 [encM k k' ins outs rows] = some (.bool (decide (∀ s, s < rows.length → (Zck rows ins 0).getD s false = true)), none) := by
  have hn1 := hm.n1
  have hn2 := hm.n2
  have c33 := f33 (k := k) (k' := k') (outs := outs) hm (f := 0) (by omega)
  rw [Int.natCast_zero] at c33
  have hRl := Zlt (rows := rows) (ins := ins) 0
  generalize Zck rows ins 0 = R at *
  obtain ⟨e, he, hg, hx⟩ := Zat AP80 (args := [encM k k' ins outs rows]) rfl (by decide)
  have he : e.length = 18 := he
  have h0 : getE e 0 = encM k k' ins outs rows := hg 0 (by simp only [List.length_cons]; omega)
  rw [hx]; clear hx hg; unfold c80
  simp (disch := first | exact dJ | fail) only [go_sem, Nat.reduceAdd, Nat.reduceMul, Nat.reduceSub, Nat.reduceLeDiff, Nat.reduceLT, Nat.reduceEqDiff, h0, he, Zan, Zaf, Zai, List.getD_cons_zero, Zam, Zao, Zap, Zah, Zaj, Zae, Zad, Zag, c33]
  generalize hE : putE _ _ _ = E
  have hEl : E.length = 18 := by subst hE; simp (disch := first | exact dG | fail) only [Zab, Zaa, Zac, he]
  have p3 : getE E 3 = enS fB 1 R (.c (some rows.length)) := by subst hE; exact gQ he
  have p4 : getE E 4 = .int .i64 (0 : Nat) := by subst hE; exact gZ he
  clear hE
  generalize hP : [some (0, O.cells [V.int IntKind.i64 ↑ins, V.int IntKind.i64 ↑outs, enS (fR k') 1 rows k] Kd.fixed), none] = HH
  have hHl : HH.length = 2 := by subst hP; rfl
  clear hP
  have key : ∃ ex e' H' g', X AP (.inl (some 2) Yhc) ⟨E, HH, 2, none⟩ = some (ex, ⟨e', H', g', none⟩) ∧ (ex = .exit 0 ∧ e'.length = 18 ∧ (∀ s, s < rows.length → R.getD s false = true) ∨ ex = .ret ∧ getE e' 2 = .bool false ∧ ¬ (∀ s, s < rows.length → R.getD s false = true)) := by
    refine Zbx (fun k1 e H g => ∃ (j : Nat), k1 + j = rows.length ∧ (e.length = 18 ∧ getE e 3 = enS fB 1 R (.c (some rows.length)) ∧ getE e 4 = .int .i64 j) ∧ H = HH ∧ ∀ s, s < j → R.getD s false = true) _ ?_ rows.length E HH 2 ⟨0, by omega, ⟨hEl, p3, p4⟩, rfl, by intros; omega⟩
    rintro k1 e H g ⟨j, hk, ⟨he, h3, h4⟩, rfl, hp⟩
    unfold Yhc
    have w1 : IntKind.i64.wrap ((j : Int) + 1) = ((j + 1 : Nat) : Int) := by rw [Zay (by omega) (by omega)]; rfl
    have hT : H.take 2 = H := List.take_of_length_le (by omega)
    by_cases hlt : j < rows.length
    · cases hq : R.getD j false with
      | true =>
        simp (disch := first | exact dJ | fail) only [go_sem, Nat.reduceAdd, Nat.reduceMul, Nat.reduceSub, Nat.reduceLeDiff, Nat.reduceLT, Nat.reduceEqDiff, h3, h4, he, hT, w1, Zan, Zaf, Zai, List.getD_cons_zero, Zam, Zao, Zap, Zah, Zaj, Zae, Zad, Zag, Zeq, hq]
        refine ⟨_, _, _, _, rfl, .inl ⟨rfl, k1 - 1, by omega, j + 1, by omega, ⟨gQ he, gQ h3, gQ he⟩, rfl, ?_⟩⟩
        intro s hs
        by_cases hsj : s < j
        · exact hp s hsj
        · rw [show s = j by omega]; exact hq
      | false =>
        simp (disch := first | exact dJ | fail) only [go_sem, Nat.reduceAdd, Nat.reduceMul, Nat.reduceSub, Nat.reduceLeDiff, Nat.reduceLT, Nat.reduceEqDiff, h3, h4, he, hT, w1, Zan, Zaf, Zai, List.getD_cons_zero, Zam, Zao, Zap, Zah, Zaj, Zae, Zad, Zag, Zeq, hq]
        exact ⟨_, _, _, _, rfl, .inr ⟨by simp, .inr ⟨rfl, (gQ he), fun h => by rw [h j hlt] at hq; cases hq⟩⟩⟩
    · simp (disch := first | exact dJ | fail) only [go_sem, Nat.reduceAdd, Nat.reduceMul, Nat.reduceSub, Nat.reduceLeDiff, Nat.reduceLT, Nat.reduceEqDiff, h3, h4, he, hT, w1, Zan, Zaf, Zai, List.getD_cons_zero, Zam, Zao, Zap, Zah, Zaj, Zae, Zad, Zag]
      exact ⟨_, _, _, _, rfl, .inr ⟨by simp, .inl ⟨rfl, (gQ he), fun s hs => hp s (by omega)⟩⟩⟩
  obtain ⟨ex, e1, H1, g1, hx, ⟨rfl, he1, hr⟩ | ⟨rfl, h2, hr⟩⟩ := key
  · rw [hx, decide_eq_true hr]
    simp (disch := first | exact dJ | fail) only [go_sem, Nat.reduceAdd, Nat.reduceMul, Nat.reduceSub, Nat.reduceLeDiff, Nat.reduceLT, Nat.reduceEqDiff, he1]
  · rw [hx, decide_eq_false hr]
    simp (disch := first | exact dJ | fail) only [go_sem, Nat.reduceAdd, Nat.reduceMul, Nat.reduceSub, Nat.reduceLeDiff, Nat.reduceLT, Nat.reduceEqDiff, h2]
end
/-- The word of numbers. -/
def Zef (ss : List Nat) (ins : Nat) : List Int := (ss.take 12).map fun s => ((s % ins : Nat) : Int)
theorem ldC_N0 {k : IntKind} {l : List Nat} (h : 0 < l.length) : ldC 1 false 0 (l.flatMap (fN k)) = some (.int k ((l.getD 0 0 : Nat) : Int)) := Zam (i := 0) h
theorem f9 (ss : List Nat) (ks : SC) (hs : ∀ i, ss.getD i 0 < 256) {ins : Nat} (hi : 1 ≤ ins) (hi2 : ins ≤ 16) : Zaq AP (X AP) false 9 [.agg [enS (fN .u8) 1 ss ks], .int .i64 ins] = some (ints (Zef ss ins) .n, none) := by
  obtain ⟨e, he, hg, hx⟩ := Zat AP9 (args := [.agg [enS (fN .u8) 1 ss ks], .int .i64 ins]) rfl (by decide)
  have he : e.length = 30 := he
  have h0 : getE e 0 = .agg [enS (fN .u8) 1 ss ks] := hg 0 (by simp only [List.length_cons]; omega)
  have h1 : getE e 1 = .int .i64 ins := hg 1 (by simp only [List.length_cons]; omega)
  rw [hx]; clear hx hg; unfold c9
  simp (disch := first | exact dJ | fail) only [go_sem, Nat.reduceAdd, Nat.reduceMul, Nat.reduceSub, Nat.reduceLeDiff, Nat.reduceLT, Nat.reduceEqDiff, h0, h1, he, Zan, Zaf, Zai, List.getD_cons_zero, Zam, Zao, Zap, Zah, Zaj, Zae, Zad, Zag]
  generalize hE : putE _ _ _ = E
  have hEl : E.length = 30 := by subst hE; simp (disch := first | exact dG | fail) only [Zab, Zaa, Zac, he]
  have p1 : getE E 1 = .int .i64 ins := by subst hE; exact gQ h1
  have p2 : getE E 2 = .ptr 0 0 0 := by subst hE; exact gQ he
  have p5 : getE E 5 = .sl 1 1 1 0 (0 : Nat) none := by subst hE; exact gQ he
  have p6 : getE E 6 = .int .i64 (0 : Nat) := by subst hE; exact gZ he
  clear hE
  have hwl : ∀ i, ((ss.take i).map fun s => ((s % ins : Nat) : Int)).length = min i ss.length := fun i => by simp
  have key : ∃ ex e' H' g', X AP (.inl (some 2) B9_1) ⟨E, [some (0, .cells [enS (fN .u8) 1 ss ks] .fixed), some (1, .cells [] .nilo)], 2, none⟩ = some (ex, ⟨e', H', g', none⟩) ∧ ex = .exit 0 ∧ ∃ gx, H' = [some (0, .cells [enS (fN .u8) 1 ss ks] .fixed), some (gx, grO fI (Zef ss ins))] ∧ (e'.length = 30 ∧ getE e' 5 = .sl 1 gx 1 0 (Zef ss ins).length none) := by
    refine Zbx (fun k1 e H g => ∃ (i gx : Nat) (K : Heap), k1 + i = 12 ∧ i ≤ ss.length ∧ (e.length = 30 ∧ getE e 1 = .int .i64 ins ∧ getE e 2 = .ptr 0 0 0 ∧ getE e 5 = .sl 1 gx 1 0 i none ∧ getE e 6 = .int .i64 i) ∧ H = some (0, .cells [enS (fN .u8) 1 ss ks] .fixed) :: some (gx, grO fI ((ss.take i).map fun s => ((s % ins : Nat) : Int))) :: K) _ ?_ 12 E _ 2 ⟨0, 1, [], by omega, by omega, ⟨hEl, p1, p2, p5, p6⟩, rfl⟩
    rintro k1 e H g ⟨i, gx, K, hk, hil, ⟨he, h1, h2, h5, h6⟩, rfl⟩
    unfold B9_1
    have w1 : IntKind.i64.wrap ((i : Int) + 1) = ((i + 1 : Nat) : Int) := by rw [Zay (by omega) (by omega)]; rfl
    by_cases hlt : i < ss.length
    · by_cases h12 : i < 12
      · have hv := hs i
        have w2 : IntKind.i64.wrap (((ss.getD i 0 : Nat)) : Int) = ((ss.getD i 0 : Nat) : Int) := Zfy (by omega)
        have w3 := Zfe (ss.getD i 0) ins
        have hsn : (ss.take i).map (fun s => ((s % ins : Nat) : Int)) ++ [((ss.getD i 0 % ins : Nat) : Int)] = (ss.take (i + 1)).map fun s => ((s % ins : Nat) : Int) := by
          rw [List.take_add_one, List.map_append, List.getD_eq_getElem?_getD, List.getElem?_eq_getElem hlt]; rfl
        have hl := hwl i
        rw [Nat.min_eq_left (by omega)] at hl
        generalize (ss.take i).map (fun s => ((s % ins : Nat) : Int)) = L at *
        simp (disch := first | exact dJ | fail) only [go_sem, Nat.reduceAdd, Nat.reduceMul, Nat.reduceSub, Nat.reduceLeDiff, Nat.reduceLT, Nat.reduceEqDiff, h1, h2, h5, h6, he, w1, w2, w3, Zan, Zaf, Zai, List.getD_cons_zero, Zam, Zao, Zap, Zah, Zaj, Zae, Zad, Zag, Zam]
        exact ⟨_, _, _, _, rfl, .inl ⟨rfl, k1 - 1, by omega, i + 1, _, _, by omega, by omega, ⟨gQ he, gQ h1, gQ h2, gQ he, gQ he⟩, by rw [← hsn] <;> rfl⟩⟩
      · have hi12 : i = 12 := by omega
        subst hi12
        simp (disch := first | exact dJ | fail) only [go_sem, Nat.reduceAdd, Nat.reduceMul, Nat.reduceSub, Nat.reduceLeDiff, Nat.reduceLT, Nat.reduceEqDiff, h1, h2, h5, h6, he, w1, Zan, Zaf, Zai, List.getD_cons_zero, Zam, Zao, Zap, Zah, Zaj, Zae, Zad, Zag]
        have := hwl 12
        rw [Nat.min_eq_left (by omega)] at this
        exact ⟨_, _, _, _, rfl, .inr ⟨by simp, rfl, gx, rfl, (gQ he), by unfold Zef; rw [this]; simp (disch := first | exact dG | fail) only [Zab, Zaa, Zac, h5]⟩⟩
    · simp (disch := first | exact dJ | fail) only [go_sem, Nat.reduceAdd, Nat.reduceMul, Nat.reduceSub, Nat.reduceLeDiff, Nat.reduceLT, Nat.reduceEqDiff, h1, h2, h5, h6, he, w1, Zan, Zaf, Zai, List.getD_cons_zero, Zam, Zao, Zap, Zah, Zaj, Zae, Zad, Zag]
      have hi12 : i = ss.length := by omega
      have := hwl 12
      rw [Nat.min_eq_right (by omega)] at this
      have ht : ss.take 12 = ss.take i := by rw [List.take_of_length_le (by omega), List.take_of_length_le (by omega)]
      exact ⟨_, _, _, _, rfl, .inr ⟨by simp, rfl, gx, by unfold Zef; rw [ht] <;> rfl, (gQ he), by unfold Zef; rw [this, ← hi12]; simp (disch := first | exact dG | fail) only [Zab, Zaa, Zac, h5]⟩⟩
  obtain ⟨ex, e1, H1, g1, hx, rfl, gx, rfl, he1, h5⟩ := key
  rw [hx]
  simp (disch := first | exact dJ | fail) only [go_sem, Nat.reduceAdd, Nat.reduceMul, Nat.reduceSub, Nat.reduceLeDiff, Nat.reduceLT, Nat.reduceEqDiff, h5, he1]
  exact Znf _ _ _ _ rfl (by simp only [Zei, Zeb, if_true])
end Go.AM
