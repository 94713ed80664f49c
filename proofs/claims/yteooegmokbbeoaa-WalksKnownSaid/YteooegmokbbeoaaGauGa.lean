/- The states that are Zck; words compared; a machine's part, in the reference. -/
import Derived.Test.YteooegmokbbeoaaGauFm
set_option linter.unusedVariables false
set_option linter.unusedSimpArgs false
namespace Go.AM
def ordR (r : List (Nat × Word)) : List Int := r.map fun x => (x.1 : Int)
section
variable {k k' : SC} {ins outs : Nat} {rows : List (List (Int × Int))}
def C23 (k k' : SC) (ins outs : Nat) (rows : List (List (Int × Int))) (e0 : List V) (st : LSt) (g : Nat) (l : List Int) : Heap :=
  [some (0, oM k k' ins outs rows), some (1, .cells [.sl 2 g 1 0 l.length none] .fixed), some (g, grO fI l), none, some (4, oM k k' ins outs rows), some (5, .cells [.int .i64 0] .fixed), some (6, .loop st none false e0 [7] Zoz Zpi)]
theorem Y23 {r : List (Nat × Word)} (hrl : r.length ≤ 64) {e0 : List V} (h : e0.length = 14 ∧ getE e0 3 = .ptr 1 1 0) : Yok rows (0 : Nat) (.yld 6 6) 7 (fun ys K => ∃ g, K = C23 k k' ins outs rows e0 .ready g (ordR ys)) r := by
  intro ys x zs H γ hr hC hb
  obtain ⟨he, h3⟩ := h
  obtain ⟨gl, hC⟩ := hC
  have hH : H = C23 k k' ins outs rows e0 .ready gl (ordR ys) ++ H.drop 7 := by rw [← hC, List.take_append_drop]
  generalize hK : H.drop 7 = K at *
  subst hH
  clear hC hb hK
  have hyl : ys.length ≤ 64 := by rw [hr] at hrl; simp at hrl; omega
  have hol : (ordR ys).length = ys.length := by simp [ordR]
  have hsn : ordR (ys ++ [x]) = ordR ys ++ [(x.1 : Int)] := by simp [ordR]
  generalize hL : ordR ys = L at *
  have harr : (arr3 rows (0 : Nat) x).length = 3 := Enc.len (f := arr3 rows (0 : Nat)) x
  have hst : (Zbj (V.agg (arr3 rows (0 : Nat) x))).length = 3 := harr
  have d0 : ldC 1 false 0 (arr3 rows 0 x) = some (.int .i64 x.1) := Ztd
  have h1 : X AP Zoz ⟨putL e0 [7] [.agg (arr3 rows (0 : Nat) x)], C23 k k' ins outs rows e0 .ready gl L ++ K, γ, some (6, 6)⟩ = some (.normal, ⟨putE (putE e0 7 (.agg (arr3 rows (0 : Nat) x))) 4 (.ptr (K.length + 7) γ 0), C23 k k' ins outs rows e0 .ready gl L ++ (K ++ [some (γ, .cells (arr3 rows (0 : Nat) x) .fixed)]), γ + 1, some (6, 6)⟩) := by
    unfold Zoz putL putL C23
    simp (disch := first | exact dJ | fail) only [go_sem, Nat.reduceAdd, Nat.reduceMul, Nat.reduceSub, Nat.reduceLeDiff, Nat.reduceLT, Nat.reduceEqDiff, he, h3, Zan, Zaf, Zai, List.getD_cons_zero, Zam, Zao, Zap, Zah, Zaj, Zae, Zad, Zag, Zhx, Zbv, Zbm]
  have h2 : ∃ e2 K2 γ2, X AP Zpi ⟨putE (putE e0 7 (.agg (arr3 rows (0 : Nat) x))) 4 (.ptr (K.length + 7) γ 0), C23 k k' ins outs rows e0 .busy gl L ++ (K ++ [some (γ, .cells (arr3 rows (0 : Nat) x) .fixed)]), γ + 1, some (6, 6)⟩ = some (.normal, ⟨e2, C23 k k' ins outs rows e0 .busy (γ + 2) (L ++ [(x.1 : Int)]) ++ (K ++ K2), γ2, some (6, 6)⟩) := by
    generalize hE : putE _ 4 _ = E
    have hEl : E.length = 14 := by subst hE; simp (disch := first | exact dG | fail) only [Zab, Zaa, Zac, he]
    have p3 : getE E 3 = .ptr 1 1 0 := by subst hE; exact gQ h3
    have p4 : getE E 4 = .ptr (K.length + 7) γ 0 := by subst hE; exact gQ he
    clear hE
    unfold Zpi C23
    simp (disch := first | exact dJ | fail) only [go_sem, Nat.reduceAdd, Nat.reduceMul, Nat.reduceSub, Nat.reduceLeDiff, Nat.reduceLT, Nat.reduceEqDiff, hEl, p3, p4, Zan, Zaf, Zai, List.getD_cons_zero, Zam, Zao, Zap, Zah, Zaj, Zae, Zad, Zag, Zbm, d0, List.append_assoc, Zbr, Zbv, Zdq]
    exact ⟨_, _, _, rfl⟩
  obtain ⟨e2, K2, γ2, h2⟩ := h2
  have h3' := Zkz (P := AP) (id := 6) (g := 6) (args := [.agg (arr3 rows (0 : Nat) x)]) (ps := [7]) (keep := false) (p0 := none) (env := e0) (asg := Zoz) (body := Zpi) (by rfl) rfl h1 (by rfl) h2 (by rfl)
  have hs8 : ∀ L2 : Heap, (C23 k k' ins outs rows e0 .busy (γ + 2) (L ++ [(x.1 : Int)]) ++ L2).set 6 (some (6, .loop .ready none false e0 [7] Zoz Zpi)) = C23 k k' ins outs rows e0 .ready (γ + 2) (L ++ [(x.1 : Int)]) ++ L2 := fun L => rfl
  have hfin : ((C23 k k' ins outs rows e0 .ready (γ + 2) (L ++ [(x.1 : Int)]) ++ (K ++ K2)).take (C23 k k' ins outs rows e0 .ready gl L ++ K).length) = C23 k k' ins outs rows e0 .ready (γ + 2) (L ++ [(x.1 : Int)]) ++ K := by
    rw [← List.append_assoc]
    exact List.take_left' (by simp [C23])
  simp only [Bool.false_eq_true, if_false] at h3'
  rw [hs8, hfin] at h3'
  exact ⟨_, _, h3', ⟨_, by rw [hsn]; rfl⟩, rfl⟩
theorem f23 (hm : OKM ins outs rows) {r : List (Nat × Word)} (hrl : r.length ≤ 64) (hF : Fifo rows ins (0 : Nat) [[]] [] r) : Zaq AP (X AP) false 23 [encM k k' ins outs rows] = some (ints (ordR r) .n, none) := by
  have hn1 := hm.n1
  obtain ⟨e, he, hg, hx⟩ := Zat AP23 (args := [encM k k' ins outs rows]) rfl (by decide)
  have he : e.length = 14 := he
  have h0 : getE e 0 = encM k k' ins outs rows := hg 0 (by simp only [List.length_cons]; omega)
  rw [hx]; clear hx hg; unfold c23
  have c43 := f43 (k := k) (k' := k') (ins := ins) (outs := outs) (rows := rows) 0
  simp (disch := first | exact dJ | fail) only [go_sem, Nat.reduceAdd, Nat.reduceMul, Nat.reduceSub, Nat.reduceLeDiff, Nat.reduceLT, Nat.reduceEqDiff, h0, he, Zan, Zaf, Zai, List.getD_cons_zero, Zam, Zao, Zap, Zah, Zaj, Zae, Zad, Zag, c43]
  generalize hE : putE _ _ _ = E
  have hEl : E.length = 14 := by subst hE; simp (disch := first | exact dG | fail) only [Zab, Zaa, Zac, he]
  have p3 : getE E 3 = .ptr 1 1 0 := by subst hE; exact gQ he
  have p6 : getE E 6 = .fn 58 [] [.ptr 4 4 0, .ptr 5 5 0] := by subst hE; exact gQ he
  obtain ⟨H', γ', hc, ⟨gl, k1⟩, k2⟩ := f58 (k := k) (k' := k') (outs := outs) (kf := .fixed) (im := 4) (gm := 4) (ifr := 5) (gfr := 5) hm (f := 0) (by omega) (Y23 (k := k) (k' := k') (ins := ins) (outs := outs) (rows := rows) hrl (e0 := E) ⟨hEl, p3⟩) (fun ys K h => by obtain ⟨g, rfl⟩ := h; rfl) ⟨2, rfl⟩ rfl (fun ys K h => by obtain ⟨g, rfl⟩ := h; rfl) hF 7
  have hlast : getH H' 6 6 = some (.loop .ready none false E [7] Zoz Zpi) := by
    rw [← Ziu (b := 7) (by omega), k1]; rfl
  have hxr := Zwx (P := AP) (keep := false) (f := .t 6) (ps := [7]) (asg := Zoz) (body := Zpi) (e := E) (γ := 6) (k := 58) (a := []) (b := [.ptr 4 4 0, .ptr 5 5 0]) (H := (C23 k k' ins outs rows E .ready 2 []).take 6) (H2 := H') (γ2 := γ') p6 hc hlast
  have hH6 : (C23 k k' ins outs rows E .ready 2 []).take 6 = [some (0, oM k k' ins outs rows), some (1, .cells [.sl 2 2 1 0 0 none] .fixed), some (2, .cells [] .nilo), none, some (4, oM k k' ins outs rows), some (5, .cells [.int .i64 0] .fixed)] := rfl
  rw [hH6] at hxr
  rw [hxr]
  have hH8 : H'.take 6 = (C23 k k' ins outs rows E .ready gl (ordR r)).take 6 := by
    rw [← k1, List.take_take]; rfl
  simp only [List.length_cons, List.length_nil, Nat.zero_add, Nat.reduceAdd, Bool.false_eq_true, if_false, hH8]
  unfold C23
  simp (disch := first | exact dJ | fail) only [go_sem, Nat.reduceAdd, Nat.reduceMul, Nat.reduceSub, Nat.reduceLeDiff, Nat.reduceLT, Nat.reduceEqDiff, p3, hEl, Zan, Zaf, Zai, List.getD_cons_zero, Zam, Zao, Zap, Zah, Zaj, Zae, Zad, Zag]
  exact Znf _ _ _ _ rfl (by simp only [Zei, Zeb, if_true])
end
/-- Is a word before another one? -/
def ltW (a b : Word) : Bool := decide (cmpI a b < 0)
theorem L85 {a b : List Int} {ka kb : SC} (hab : a.length = b.length) (hb : a.length < 4611686018427387904) {e : List V} (h : e.length = 40 ∧ getE e 0 = ints a ka ∧ getE e 1 = ints b kb ∧ getE e 5 = .int .i64 (0 : Nat)) :
    ∃ ex e' H' g', X AP (.inl (some 0) Yes) ⟨e, [], 0, none⟩ = some (ex, ⟨e', H', g', none⟩) ∧ (ex = .exit 0 ∧ lexI a b = 0 ∧ e'.length = 40 ∨ ex = .ret ∧ getE e' 4 = .int .i64 (if lexI a b < 0 then 1 else 0)) := by
  refine Zbx (fun k e H g => ∃ i : Nat, k + i = a.length ∧ (e.length = 40 ∧ getE e 0 = ints a ka ∧ getE e 1 = ints b kb ∧ getE e 5 = .int .i64 i) ∧ lexI a b = lexI (a.drop i) (b.drop i)) _ ?_ a.length e [] 0 ⟨0, by omega, h, by simp⟩
  rintro k e H g ⟨i, hk, ⟨he, h0, h1, h5⟩, hl⟩
  unfold Yes
  have w1 : i < a.length → IntKind.i64.wrap ((i : Int) + 1) = ((i + 1 : Nat) : Int) := fun _ => by rw [Zay (by omega) (by omega)]; rfl
  by_cases hi : i < a.length
  · have w1 := w1 hi
    rw [Zov hi (by omega)] at hl
    by_cases h2 : a.getD i 0 < b.getD i 0
    · have h3 : ¬ a.getD i 0 = b.getD i 0 := by omega
      simp (disch := first | exact dK | fail) only [go_sem, Nat.reduceAdd, Nat.reduceMul, Nat.reduceSub, Nat.reduceLeDiff, Nat.reduceLT, Nat.reduceEqDiff, h0, h1, h5, he, Zan, Zaf, Zai, List.getD_cons_zero, Zam, Zao, Zap, Zah, Zaj, Zae, Zad, Zag]
      rw [if_pos h2] at hl
      exact ⟨_, _, _, _, rfl, .inr ⟨by simp, .inr ⟨rfl, by rw [hl]; simp (disch := first | exact dG | fail) only [Zab, Zaa, Zac]; rfl⟩⟩⟩
    · by_cases h3 : b.getD i 0 < a.getD i 0
      · have h4 : ¬ a.getD i 0 = b.getD i 0 := by omega
        simp (disch := first | exact dK | fail) only [go_sem, Nat.reduceAdd, Nat.reduceMul, Nat.reduceSub, Nat.reduceLeDiff, Nat.reduceLT, Nat.reduceEqDiff, h0, h1, h5, he, Zan, Zaf, Zai, List.getD_cons_zero, Zam, Zao, Zap, Zah, Zaj, Zae, Zad, Zag]
        rw [if_neg h2, if_pos h3] at hl
        exact ⟨_, _, _, _, rfl, .inr ⟨by simp, .inr ⟨rfl, by rw [hl]; simp (disch := first | exact dG | fail) only [Zab, Zaa, Zac]; rfl⟩⟩⟩
      · have h4 : a.getD i 0 = b.getD i 0 := by omega
        simp (disch := first | exact dK | fail) only [go_sem, Nat.reduceAdd, Nat.reduceMul, Nat.reduceSub, Nat.reduceLeDiff, Nat.reduceLT, Nat.reduceEqDiff, h0, h1, h5, he, w1, Zan, Zaf, Zai, List.getD_cons_zero, Zam, Zao, Zap, Zah, Zaj, Zae, Zad, Zag]
        rw [if_neg h2, if_neg h3] at hl
        exact ⟨_, _, _, _, rfl, .inl ⟨rfl, k - 1, by omega, i + 1, by omega, ⟨gQ he, gQ h0, gQ h1, gQ he⟩, hl⟩⟩
  · simp (disch := first | exact dJ | fail) only [go_sem, Nat.reduceAdd, Nat.reduceMul, Nat.reduceSub, Nat.reduceLeDiff, Nat.reduceLT, Nat.reduceEqDiff, h0, h1, h5, he]
    have hi' : a.length ≤ i := by omega
    rw [List.drop_eq_nil_of_le hi', List.drop_eq_nil_of_le (by omega)] at hl
    exact ⟨_, _, _, _, rfl, .inr ⟨by simp, .inl ⟨rfl, hl, (gQ he)⟩⟩⟩
theorem f85 (a b : List Int) (ka kb : SC) (hb : a.length < 4611686018427387904) : Zaq AP (X AP) false 85 [ints a ka, ints b kb] = some (.int .i64 (if ltW a b then 1 else 0), none) := by
  obtain ⟨e, he, hg, hx⟩ := Zat AP85 (args := [ints a ka, ints b kb]) rfl (by decide)
  have he : e.length = 40 := he
  have h0 : getE e 0 = ints a ka := hg 0 (by simp only [List.length_cons]; omega)
  have h1 : getE e 1 = ints b kb := hg 1 (by simp only [List.length_cons]; omega)
  rw [hx]; clear hx hg; unfold c85
  unfold ltW cmpI
  by_cases h2 : a.length < b.length
  · simp (disch := first | exact dJ | fail) only [go_sem, Nat.reduceAdd, Nat.reduceMul, Nat.reduceSub, Nat.reduceLeDiff, Nat.reduceLT, Nat.reduceEqDiff, h0, h1]
    try simp [h2]
  · by_cases h3 : b.length < a.length
    · simp (disch := first | exact dJ | fail) only [go_sem, Nat.reduceAdd, Nat.reduceMul, Nat.reduceSub, Nat.reduceLeDiff, Nat.reduceLT, Nat.reduceEqDiff, h0, h1]
      try simp [h2, h3]
    · simp (disch := first | exact dJ | fail) only [go_sem, Nat.reduceAdd, Nat.reduceMul, Nat.reduceSub, Nat.reduceLeDiff, Nat.reduceLT, Nat.reduceEqDiff, h0, h1]
      generalize hE : putE _ _ _ = E
      have hEl : E.length = 40 := by subst hE; simp (disch := first | exact dG | fail) only [Zab, Zaa, Zac, he]
      have q0 : getE E 0 = ints a ka := by subst hE; exact gQ h0
      have q1 : getE E 1 = ints b kb := by subst hE; exact gQ h1
      have q5 : getE E 5 = .int .i64 (0 : Nat) := by subst hE; simp (disch := first | exact dG | fail) only [Zab, Zaa, Zac, h0, Int.ofNat_zero, Int.natCast_zero]
      obtain ⟨ex, e', H', g', hx, h⟩ := L85 (by omega) hb ⟨hEl, q0, q1, q5⟩
      rw [hx]
      rcases h with ⟨rfl, hl, he'⟩ | ⟨rfl, hr⟩
      · simp (disch := first | exact dJ | fail) only [go_sem, Nat.reduceAdd, Nat.reduceMul, Nat.reduceSub, Nat.reduceLeDiff, Nat.reduceLT, Nat.reduceEqDiff, he']
        try simp [h2, h3, hl]
      · simp (disch := first | exact dJ | fail) only [go_sem, Nat.reduceAdd, Nat.reduceMul, Nat.reduceSub, Nat.reduceLeDiff, Nat.reduceLT, Nat.reduceEqDiff, hr]
        try simp [h2, h3]
end Go.AM

set_option linter.unusedVariables false
set_option linter.unusedSimpArgs false
namespace Go.AM
/-- The last place of a number among the first ones of a list, or -1. -/
def posN (l : List Int) (x : Int) : Nat → Int
  | 0 => -1
  | n + 1 => if l.getD n 0 = x then n else posN l x n
def pos (l : List Int) (x : Int) : Int := posN l x l.length
def Zxf (l : List Int) (x : Int × Int) : Int × Int := (pos l x.1, x.2)
def Zee (rows : List (List (Int × Int))) (ins : Nat) (l : List Int) (s : Nat) : List (Int × Int) := (List.range ins).map fun i => Zxf l (edg rows s i)
def Zbs (rows : List (List (Int × Int))) (ins : Nat) (l : List Int) : List (List (Int × Int)) := l.map fun s => Zee rows ins l s.toNat
section
variable {k k' : SC} {ins outs : Nat} {rows : List (List (Int × Int))}
theorem L35_3 {l : List Int} {kl : SC} (hl : l.length ≤ 1000) {x y : Int} {v6 v7 v8 : V} {K : Heap} (hK : K.length = 6) {g9 : Nat} {e : List V} {g : Nat} (h : e.length = 68 ∧ getE e 1 = ints l kl ∧ getE e 2 = .ptr 0 0 0 ∧ getE e 4 = .ptr 1 1 0 ∧ getE e 5 = .ptr 2 2 0 ∧ getE e 6 = v6 ∧ getE e 7 = v7 ∧ getE e 8 = v8 ∧ getE e 9 = .ptr 6 g9 0 ∧ getE e 10 = .int .i64 (-1) ∧ getE e 11 = .int .i64 (0 : Nat)) :
    ∃ ex e' H' g', X AP (.inl (some 7) Ydv) ⟨e, K ++ [some (g9, .cells [.int .i64 x, .int .i64 y] .fixed)], g, none⟩ = some (ex, ⟨e', H', g', none⟩) ∧
      ex = .exit 4 ∧ H' = K ++ [some (g9, .cells [.int .i64 x, .int .i64 y] .fixed)] ∧ (e'.length = 68 ∧ getE e' 1 = ints l kl ∧ getE e' 2 = .ptr 0 0 0 ∧ getE e' 4 = .ptr 1 1 0 ∧ getE e' 5 = .ptr 2 2 0 ∧ getE e' 6 = v6 ∧ getE e' 7 = v7 ∧ getE e' 8 = v8 ∧ getE e' 9 = .ptr 6 g9 0 ∧ getE e' 10 = .int .i64 (pos l x)) := by
  refine Zbx (fun k1 e H g => ∃ (n : Nat), k1 + n = l.length ∧ (e.length = 68 ∧ getE e 1 = ints l kl ∧ getE e 2 = .ptr 0 0 0 ∧ getE e 4 = .ptr 1 1 0 ∧ getE e 5 = .ptr 2 2 0 ∧ getE e 6 = v6 ∧ getE e 7 = v7 ∧ getE e 8 = v8 ∧ getE e 9 = .ptr 6 g9 0 ∧ getE e 10 = .int .i64 (posN l x n) ∧ getE e 11 = .int .i64 n) ∧
    H = K ++ [some (g9, .cells [.int .i64 x, .int .i64 y] .fixed)]) _ ?_ l.length e _ g ⟨0, by omega, h, rfl⟩
  rintro k1 e H g ⟨n, hk, ⟨he, h1, h2, h4, h5, h6, h7, h8, h9, h10, h11⟩, rfl⟩
  unfold Ydv
  have w1 : IntKind.i64.wrap ((n : Int) + 1) = ((n + 1 : Nat) : Int) := by rw [Zay (by omega) (by omega)]; rfl
  have hT : (K ++ [some (g9, O.cells [V.int .i64 x, V.int .i64 y] Kd.fixed)]).take 7 = K ++ [some (g9, O.cells [V.int .i64 x, V.int .i64 y] Kd.fixed)] := List.take_of_length_le (by simp [hK])
  have hG : getH (K ++ [some (g9, O.cells [V.int .i64 x, V.int .i64 y] Kd.fixed)]) 6 g9 = some (.cells [.int .i64 x, .int .i64 y] .fixed) := by
    rw [← hK, Zbm]; simp [getH]
  generalize K ++ [some (g9, O.cells [V.int .i64 x, V.int .i64 y] Kd.fixed)] = HH at *
  by_cases hlt : n < l.length
  · have hp : posN l x (n + 1) = if l.getD n 0 = x then (n : Int) else posN l x n := rfl
    by_cases hq : l.getD n 0 = x
    · rw [if_pos hq] at hp
      simp (disch := first | exact dJ | fail) only [go_sem, Nat.reduceAdd, Nat.reduceMul, Nat.reduceSub, Nat.reduceLeDiff, Nat.reduceLT, Nat.reduceEqDiff, hT, hG, h1, h2, h4, h5, h6, h7, h8, h9, h10, h11, he, w1, Zan, Zaf, Zai, List.getD_cons_zero, Zam, Zao, Zap, Zah, Zaj, Zae, Zad, Zag]
      exact ⟨_, _, _, _, rfl, .inl ⟨rfl, k1 - 1, by omega, n + 1, by omega, ⟨gQ he, gQ h1, gQ h2, gQ h4, gQ h5, gQ h6, gQ h7, gQ h8, gQ h9, (by rw [hp]; simp (disch := first | exact dG | fail) only [Zab, Zaa, Zac, he] <;> rfl), (gQ he)⟩, rfl⟩⟩
    · rw [if_neg hq] at hp
      simp (disch := first | exact dJ | fail) only [go_sem, Nat.reduceAdd, Nat.reduceMul, Nat.reduceSub, Nat.reduceLeDiff, Nat.reduceLT, Nat.reduceEqDiff, hT, hG, h1, h2, h4, h5, h6, h7, h8, h9, h10, h11, he, w1, Zan, Zaf, Zai, List.getD_cons_zero, Zam, Zao, Zap, Zah, Zaj, Zae, Zad, Zag]
      exact ⟨_, _, _, _, rfl, .inl ⟨rfl, k1 - 1, by omega, n + 1, by omega, ⟨gQ he, gQ h1, gQ h2, gQ h4, gQ h5, gQ h6, gQ h7, gQ h8, gQ h9, (by rw [hp]; simp (disch := first | exact dG | fail) only [Zab, Zaa, Zac, h10] <;> rfl), (gQ he)⟩, rfl⟩⟩
  · have hn : n = l.length := by omega
    subst hn
    simp (disch := first | exact dJ | fail) only [go_sem, Nat.reduceAdd, Nat.reduceMul, Nat.reduceSub, Nat.reduceLeDiff, Nat.reduceLT, Nat.reduceEqDiff, hT, hG, h1, h2, h4, h5, h6, h7, h8, h9, h10, h11, he, w1, Zan, Zaf, Zai, List.getD_cons_zero, Zam, Zao, Zap, Zah, Zaj, Zae, Zad, Zag]
    exact ⟨_, _, _, _, rfl, .inr ⟨by simp, rfl, rfl, ⟨gQ he, gQ h1, gQ h2, gQ h4, gQ h5, gQ h6, gQ h7, gQ h8, gQ h9, (gQ h10)⟩⟩⟩
theorem Zli (l : List Int) (s : Nat) : (Zee rows ins l s).length = ins := by simp [Zee]
theorem L35_2 (hm : OKM ins outs rows) {l : List Int} {kl : SC} (hl : l.length ≤ 1000) {j s : Nat} (hj : j < l.length) (hs : l.getD j 0 = s) (hsr : s < rows.length) {x3 : Option (Nat × AM.O)} {g4 nr g5 : Nat} {rs : List (List (Int × Int))} {e : List V} {g : Nat} (h : e.length = 68 ∧ getE e 1 = ints l kl ∧ getE e 2 = .ptr 0 0 0 ∧ getE e 4 = .ptr 1 1 0 ∧ getE e 5 = .ptr 2 2 0 ∧ getE e 6 = .int .i64 j ∧ getE e 7 = .sl 5 g5 2 0 (0 : Nat) none ∧ getE e 8 = .int .i64 (0 : Nat)) :
    ∃ ex e' H' g', X AP (.inl (some 6) Yfz) ⟨e, H2 (oM k k' ins outs rows) ins outs x3 g4 nr rs [some (g5, .cells [] .nilo)], g, none⟩ = some (ex, ⟨e', H', g', none⟩) ∧
      ex = .exit 2 ∧ ∃ g6, (e'.length = 68 ∧ getE e' 1 = ints l kl ∧ getE e' 2 = .ptr 0 0 0 ∧ getE e' 4 = .ptr 1 1 0 ∧ getE e' 5 = .ptr 2 2 0 ∧ getE e' 6 = .int .i64 j ∧ getE e' 7 = .sl 5 g6 2 0 ins none) ∧
        H' = H2 (oM k k' ins outs rows) ins outs x3 g4 nr rs [some (g6, grO fE (Zee rows ins l s))] := by
  refine Zbx (fun k1 e H g => ∃ i g6 K, k1 + i = ins ∧ (e.length = 68 ∧ getE e 1 = ints l kl ∧ getE e 2 = .ptr 0 0 0 ∧ getE e 4 = .ptr 1 1 0 ∧ getE e 5 = .ptr 2 2 0 ∧ getE e 6 = .int .i64 j ∧ getE e 7 = .sl 5 g6 2 0 i none ∧ getE e 8 = .int .i64 i) ∧
    H = H2 (oM k k' ins outs rows) ins outs x3 g4 nr rs (some (g6, grO fE (Zee rows i l s)) :: K)) _ ?_ ins e _ g ⟨0, g5, [], by omega, h, rfl⟩
  rintro k1 e H g ⟨i, g6, K, hk, ⟨he, h1, h2, h4, h5, h6, h7, h8⟩, rfl⟩
  have hi := hm.i2
  unfold Yfz
  simp only [H2]
  have w1 : IntKind.i64.wrap ((i : Int) + 1) = ((i + 1 : Nat) : Int) := by rw [Zay (by omega) (by omega)]; rfl
  by_cases hlt : i < ins
  · have hrow := hm.len s hsr
    have hpl := Zli (rows := rows) (ins := i) l s
    simp (disch := first | exact dJ | fail) only [go_sem, Nat.reduceAdd, Nat.reduceMul, Nat.reduceSub, Nat.reduceLeDiff, Nat.reduceLT, Nat.reduceEqDiff, h1, h2, h4, h5, h6, h7, h8, he, w1, Zan, Zaf, Zai, List.getD_cons_zero, Zam, Zao, Zap, Zah, Zaj, Zae, Zad, Zag, hs]
    generalize hE : putE _ _ _ = E
    have hEl : E.length = 68 := by subst hE; simp (disch := first | exact dG | fail) only [Zab, Zaa, Zac, he]
    have p1 : getE E 1 = ints l kl := by subst hE; exact gQ h1
    have p2 : getE E 2 = .ptr 0 0 0 := by subst hE; exact gQ h2
    have p4 : getE E 4 = .ptr 1 1 0 := by subst hE; exact gQ h4
    have p5 : getE E 5 = .ptr 2 2 0 := by subst hE; exact gQ h5
    have p6 : getE E 6 = .int .i64 j := by subst hE; exact gQ h6
    have p7 : getE E 7 = .sl 5 g6 2 0 i none := by subst hE; exact gQ h7
    have p8 : getE E 8 = .int .i64 i := by subst hE; exact gQ h8
    have p9 : getE E 9 = .ptr 6 g 0 := by subst hE; exact gQ he
    have p10 : getE E 10 = .int .i64 (-1) := by subst hE; exact gQ he
    have p11 : getE E 11 = .int .i64 (0 : Nat) := by subst hE; exact gZ he
    obtain ⟨ex, e1, H1, g1, hx, rfl, rfl, ⟨he1, q1, q2, q4, q5, q6, q7, q8, q9, q10⟩⟩ := L35_3 (kl := kl) hl (x := ((rows.getD s []).getD i (0, 0)).1) (y := ((rows.getD s []).getD i (0, 0)).2) (g9 := g) (g := g + 1) (K := [some (0, oM k k' ins outs rows), some (1, .cells [.int .i64 0, .int .i64 0, .nils] .fixed), some (2, .cells [.int .i64 ins, .int .i64 outs, .sl 4 g4 1 0 nr none] .fixed), x3, some (g4, grO (fR .n) rs), some (g6, grO fE (Zee rows i l s))]) rfl ⟨hEl, p1, p2, p4, p5, p6, p7, p8, p9, p10, p11⟩
    simp only [List.cons_append, List.nil_append] at hx
    rw [hx]
    simp (disch := first | exact dJ | fail) only [go_sem, Nat.reduceAdd, Nat.reduceMul, Nat.reduceSub, Nat.reduceLeDiff, Nat.reduceLT, Nat.reduceEqDiff, q1, q2, q4, q5, q6, q7, q8, q9, q10, he1, w1, Zan, Zaf, Zai, List.getD_cons_zero, Zam, Zao, Zap, Zah, Zaj, Zae, Zad, Zag]
    exact ⟨_, _, _, _, rfl, .inl ⟨rfl, k1 - 1, by omega, i + 1, _, _, by omega, ⟨gQ he1, gQ q1, gQ q2, gQ q4, gQ q5, gQ q6, gQ he1, gQ he1⟩, by unfold Zee; rw [← Zbq] <;> rfl⟩⟩
  · have hi' : i = ins := by omega
    subst hi'
    simp (disch := first | exact dJ | fail) only [go_sem, Nat.reduceAdd, Nat.reduceMul, Nat.reduceSub, Nat.reduceLeDiff, Nat.reduceLT, Nat.reduceEqDiff, h1, h2, h4, h5, h6, h7, h8, he, w1, Zan, Zaf, Zai, List.getD_cons_zero, Zam, Zao, Zap, Zah, Zaj, Zae, Zad, Zag]
    exact ⟨_, _, _, _, rfl, .inr ⟨by simp, rfl, _, ⟨gQ he, gQ h1, gQ h2, gQ h4, gQ h5, gQ h6, gQ h7⟩, rfl⟩⟩
def Zpj (rows : List (List (Int × Int))) (ins : Nat) (l : List Int) (j : Nat) : List (List (Int × Int)) := (List.range j).map fun j => Zee rows ins l (l.getD j 0).toNat
theorem Zww (l : List Int) (j : Nat) : (Zpj rows ins l j).length = j := by simp [Zpj]
theorem Zxz (l : List Int) : Zpj rows ins l l.length = Zbs rows ins l := by
  unfold Zpj Zbs
  apply List.ext_getElem (by simp)
  intro i h1 h2
  simp only [List.length_map, List.length_range] at h1
  simp [List.getD_eq_getElem?_getD, h1]
theorem f35 (hm : OKM ins outs rows) {l : List Int} {kl : SC} (hl : l.length ≤ 1000) (hr : ∀ x ∈ l, 0 ≤ x ∧ x < rows.length) : Zaq AP (X AP) false 35 [encM k k' ins outs rows, ints l kl] = some (encM .n .n ins outs (Zbs rows ins l), none) := by
  obtain ⟨e, he, hg, hx⟩ := Zat AP35 (args := [encM k k' ins outs rows, ints l kl]) rfl (by decide)
  have he : e.length = 68 := he
  have h0 : getE e 0 = encM k k' ins outs rows := hg 0 (by simp only [List.length_cons]; omega)
  have h1 : getE e 1 = ints l kl := hg 1 (by simp only [List.length_cons]; omega)
  rw [hx]; clear hx hg; unfold c35
  simp (disch := first | exact dJ | fail) only [go_sem, Nat.reduceAdd, Nat.reduceMul, Nat.reduceSub, Nat.reduceLeDiff, Nat.reduceLT, Nat.reduceEqDiff, h0, h1, he, Zan, Zaf, Zai, List.getD_cons_zero, Zam, Zao, Zap, Zah, Zaj, Zae, Zad, Zag]
  generalize hE : putE _ _ _ = E
  have hEl : E.length = 68 := by subst hE; simp (disch := first | exact dG | fail) only [Zab, Zaa, Zac, he]
  have p1 : getE E 1 = ints l kl := by subst hE; exact gQ h1
  have p2 : getE E 2 = .ptr 0 0 0 := by subst hE; exact gQ he
  have p4 : getE E 4 = .ptr 1 1 0 := by subst hE; exact gQ he
  have p5 : getE E 5 = .ptr 2 2 0 := by subst hE; exact gQ he
  have p6 : getE E 6 = .int .i64 (0 : Nat) := by subst hE; exact gZ he
  have key : ∃ ex e' H' g', X AP (.inl (some 5) Yef) ⟨E, H2 (oM k k' ins outs rows) ins outs (some (3, .cells [] .nilo)) 4 0 [] [], 5, none⟩ = some (ex, ⟨e', H', g', none⟩) ∧ ex = .exit 0 ∧ (e'.length = 68 ∧ getE e' 4 = .ptr 1 1 0 ∧ getE e' 5 = .ptr 2 2 0) ∧ ∃ g6, H' = H2 (oM k k' ins outs rows) ins outs (some (3, .cells [] .nilo)) g6 l.length (Zpj rows ins l l.length) [] := by
    refine Zbx (fun k1 e H g => ∃ (j g6 : Nat) (K : Heap), k1 + j = l.length ∧ (e.length = 68 ∧ getE e 1 = ints l kl ∧ getE e 2 = .ptr 0 0 0 ∧ getE e 4 = .ptr 1 1 0 ∧ getE e 5 = .ptr 2 2 0 ∧ getE e 6 = .int .i64 j) ∧ H = H2 (oM k k' ins outs rows) ins outs (some (3, .cells [] .nilo)) g6 j (Zpj rows ins l j) K) _ ?_ l.length E _ 5 ⟨0, 4, [], by omega, ⟨hEl, p1, p2, p4, p5, p6⟩, rfl⟩
    rintro k1 e H g ⟨j, g6, K, hk, ⟨he, h1, h2, h4, h5, h6⟩, rfl⟩
    unfold Yef
    simp only [H2]
    have w1 : IntKind.i64.wrap ((j : Int) + 1) = ((j + 1 : Nat) : Int) := by rw [Zay (by omega) (by omega)]; rfl
    by_cases hlt : j < l.length
    · have hll := Zww (rows := rows) (ins := ins) l j
      have hrj := hr (l.getD j 0) (Zci 0 hlt)
      obtain ⟨s, hs⟩ : ∃ s : Nat, l.getD j 0 = s := ⟨(l.getD j 0).toNat, by omega⟩
      simp (disch := first | exact dJ | fail) only [go_sem, Nat.reduceAdd, Nat.reduceMul, Nat.reduceSub, Nat.reduceLeDiff, Nat.reduceLT, Nat.reduceEqDiff, h1, h2, h4, h5, h6, he, w1, Zan, Zaf, Zai, List.getD_cons_zero, Zam, Zao, Zap, Zah, Zaj, Zae, Zad, Zag]
      generalize hE : putE _ _ _ = E
      have hEl : E.length = 68 := by subst hE; simp (disch := first | exact dG | fail) only [Zab, Zaa, Zac, he]
      have p1 : getE E 1 = ints l kl := by subst hE; exact gQ h1
      have p2 : getE E 2 = .ptr 0 0 0 := by subst hE; exact gQ h2
      have p4 : getE E 4 = .ptr 1 1 0 := by subst hE; exact gQ h4
      have p5 : getE E 5 = .ptr 2 2 0 := by subst hE; exact gQ h5
      have p6 : getE E 6 = .int .i64 j := by subst hE; exact gQ h6
      have p7 : getE E 7 = .sl 5 g 2 0 (0 : Nat) none := by subst hE; exact gQ he
      have p8 : getE E 8 = .int .i64 (0 : Nat) := by subst hE; exact gZ he
      obtain ⟨ex, e1, H1, g1, hx, rfl, g7, ⟨he1, q1, q2, q4, q5, q6, q7⟩, rfl⟩ := L35_2 (k := k) (k' := k') (kl := kl) hm hl hlt hs (by omega) (x3 := some (3, .cells [] .nilo)) (g4 := g6) (nr := j) (g5 := g) (rs := Zpj rows ins l j) (g := g + 1) ⟨hEl, p1, p2, p4, p5, p6, p7, p8⟩
      rw [hx]
      have hpl := Zli (rows := rows) (ins := ins) l s
      simp (disch := first | exact dJ | fail) only [go_sem, Nat.reduceAdd, Nat.reduceMul, Nat.reduceSub, Nat.reduceLeDiff, Nat.reduceLT, Nat.reduceEqDiff, q1, q2, q4, q5, q6, q7, he1, w1, Zan, Zaf, Zai, List.getD_cons_zero, Zam, Zao, Zap, Zah, Zaj, Zae, Zad, Zag]
      exact ⟨_, _, _, _, rfl, .inl ⟨rfl, k1 - 1, by omega, j + 1, _, _, by omega, ⟨gQ he1, gQ q1, gQ q2, gQ q4, gQ q5, gQ he1⟩, by unfold Zpj; rw [← Zbq, hs, Int.toNat_natCast] <;> rfl⟩⟩
    · have hj : j = l.length := by omega
      subst hj
      simp (disch := first | exact dJ | fail) only [go_sem, Nat.reduceAdd, Nat.reduceMul, Nat.reduceSub, Nat.reduceLeDiff, Nat.reduceLT, Nat.reduceEqDiff, h1, h2, h4, h5, h6, he, w1, Zan, Zaf, Zai, List.getD_cons_zero, Zam, Zao, Zap, Zah, Zaj, Zae, Zad, Zag]
      exact ⟨_, _, _, _, rfl, .inr ⟨by simp, rfl, ⟨gQ he, gQ h4, gQ h5⟩, _, rfl⟩⟩
  obtain ⟨ex, e1, H1, g1, hx, rfl, ⟨he1, h4, h5⟩, g6, rfl⟩ := key
  rw [show ((some (4, AM.O.cells [] Kd.nilo) : Option (Nat × AM.O))) = some (4, grO (fR .n) []) from rfl, hx]
  rw [Zxz]
  have hpl : (Zbs rows ins l).length = l.length := by simp [Zbs]
  simp (disch := first | exact dJ | fail) only [go_sem, Nat.reduceAdd, Nat.reduceMul, Nat.reduceSub, Nat.reduceLeDiff, Nat.reduceLT, Nat.reduceEqDiff, h4, h5, he1]
  exact Ycq _ _ _ _ _ hpl.symm (Zbe ..) (Zbe ..) (by simp only [Zei, Zeb, if_true] <;> rfl)
end
end Go.AM

set_option linter.unusedVariables false
set_option linter.unusedSimpArgs false
namespace Go.AM
section
variable {id g : Nat} {H : Heap}
/-- append of a row to a list that grows. -/
theorem Zwe {n m : Nat} (i gi : Nat) (l xs : List Int) (hn : n = l.length) (hx : m = xs.length) (hb : (n + m) * 8 ≤ 140737488355328) (hg : getH H i gi = some (grO fI l)) :
    appG 8 id g 1 i gi n none (xs.flatMap fI) m H [] (some (grO fI l)) = some (.sl i (if xs.isEmpty then gi else g) 1 0 (n + m) none, H.set i (some (if xs.isEmpty then gi else g, grO fI (l ++ xs))), [i], if l.isEmpty && xs.isEmpty then [] else [i]) := by
  subst hn; subst hx
  have hb' : (l.length + xs.length) * 8 ≤ Zcp := hb
  have hi := Zbu hg
  have hfl : (l.flatMap fI).length = l.length := by rw [Zbn (f := fI)]; omega
  have hcl : cut (l.flatMap fI) 0 (l.length * 1) = l.flatMap fI := Zbt Zwg l
  rw [Nat.mul_one] at hcl
  have hsame : ∀ o, getH H i gi = some o → H.set i (some (gi, o)) = H := by
    intro o ho
    unfold getH at ho
    apply List.ext_getElem?
    intro j
    by_cases hij : i = j
    · subst hij
      rw [List.getElem?_set_self hi]
      cases hH : H[i]? with
      | none => rw [hH] at ho; cases ho
      | some x =>
        rw [hH] at ho
        cases x with
        | none => cases ho
        | some x =>
          obtain ⟨g', o'⟩ := x
          simp only at ho
          split at ho
          · rename_i e; subst e; cases ho; rfl
          · cases ho
    · rw [List.getElem?_set_ne hij]
  cases l with
  | nil =>
    cases xs with
    | nil =>
      have h0 := hsame _ hg
      have hb0 : ((0 : Nat) + 0) * 8 ≤ Zcp ∧ 0 < 8 := ⟨by unfold Zcp; omega, by omega⟩
      simp only [appG, grO, List.isEmpty_nil, if_true, Bool.and_self, List.append_nil, List.length_nil, List.flatMap_nil, hb0, and_self, appK, Nat.zero_mul, Nat.zero_add, Nat.le_refl, runP, Option.map_some, List.nil_append]
      simp only [grO, List.isEmpty_nil, if_true, List.flatMap_nil] at h0
      rw [h0]
    | cons a xs =>
      have hb0 : ((0 : Nat) + (a :: xs).length) * 8 ≤ Zcp ∧ 0 < 8 := ⟨hb', by omega⟩
      show (runP (if ((0 : Nat) + (a :: xs).length) * 8 ≤ Zcp ∧ 0 < 8 then appK 8 id g 1 i gi 0 none ((a :: xs).flatMap fI) (a :: xs).length (.cells [] .nilo) else .no) H).map _ = _
      rw [if_pos hb0]
      unfold appK
      simp only [Nat.zero_mul, Nat.zero_add, List.length_nil, Nat.le_refl, if_true]
      rw [if_neg (show ¬ (a :: xs).length = 0 from Nat.succ_ne_zero _)]
      simp only [runP, hi, if_true, List.isEmpty_cons, List.isEmpty_nil, Bool.and_false, Bool.false_eq_true, if_false, List.nil_append, List.length_nil, Nat.zero_add, List.length_cons, Option.map_some, grO, List.nil_append, List.append_eq]
  | cons b l =>
    have h1 : 0 + (b :: l).length * 1 ≤ ((b :: l).flatMap fI).length := by omega
    cases xs with
    | nil =>
      have hb0 : ((b :: l).length + 0) * 8 ≤ Zcp ∧ 0 < 8 := ⟨hb', by omega⟩
      show (runP (if ((b :: l).length + 0) * 8 ≤ Zcp ∧ 0 < 8 then appK 8 id g 1 i gi (b :: l).length none [] 0 (.cells ((b :: l).flatMap fI) .loose) else .no) H).map _ = _
      rw [if_pos hb0]
      unfold appK
      simp only
      rw [if_pos h1, if_pos (show 0 + ((b :: l).length + 0) * 1 ≤ ((b :: l).flatMap fI).length by omega)]
      have hs : Zbf ((b :: l).flatMap fI) (0 + (b :: l).length * 1) [] = (b :: l).flatMap fI := by simp [Zbf]
      rw [hs]
      simp only [runP, hi, if_true, List.isEmpty_cons, List.isEmpty_nil, Bool.false_and, Bool.false_eq_true, if_false, List.append_nil, List.length_nil, Option.map_some, grO, List.nil_append, List.append_eq]
    | cons a xs =>
      have hb0 : ((b :: l).length + (a :: xs).length) * 8 ≤ Zcp ∧ 0 < 8 := ⟨hb', by omega⟩
      have h2 : ¬ 0 + ((b :: l).length + (a :: xs).length) * 1 ≤ ((b :: l).flatMap fI).length := by rw [hfl]; simp only [List.length_cons]; omega
      show (runP (if ((b :: l).length + (a :: xs).length) * 8 ≤ Zcp ∧ 0 < 8 then appK 8 id g 1 i gi (b :: l).length none ((a :: xs).flatMap fI) (a :: xs).length (.cells ((b :: l).flatMap fI) .loose) else .no) H).map _ = _
      rw [if_pos hb0]
      unfold appK
      simp only
      rw [if_pos h1, if_neg h2]
      have hc : cut ((b :: l).flatMap fI) 0 ((b :: l).length * 1) = (b :: l).flatMap fI := Zbt Zwg (b :: l)
      rw [hc, ← List.flatMap_append]
      simp only [runP, hi, if_true, List.isEmpty_cons, Bool.false_and, Bool.false_eq_true, if_false, Option.map_some, grO, List.cons_append, List.nil_append, List.isEmpty_cons]
theorem Zzi {m : Nat} (i gi : Nat) (xs : List Int) (hx : m = xs.length) (hb : m * 8 ≤ 140737488355328) (hg : getH H i gi = some (.cells [] .nilo)) :
    appG 8 id g 1 i gi 0 none (xs.flatMap fI) m H [] (some (.cells [] .nilo)) = some (.sl i (if xs.isEmpty then gi else g) 1 0 m none, H.set i (some (if xs.isEmpty then gi else g, grO fI xs)), [i], if xs.isEmpty then [] else [i]) := by
  have := Zwe (id := id) (g := g) (H := H) (n := 0) (m := m) i gi [] xs rfl hx (by omega) hg
  simpa [grO] using this
end
theorem slcH_I (l : List Int) (kd : IntKind) (z : Nat) (h : z ≤ l.length) : slcV 1 (ints l .n) none (some (.int kd (z : Int))) none = some (ints (l.take z) (SC.dr l.isEmpty 0 .n)) := by
  have := Zwl (f := fI) l .n kd (z : Int) (by omega) (by omega) (by intro o h; cases h)
  rw [this]; simp
theorem slcL_I (l : List Int) (kd : IntKind) (z : Nat) (h : z ≤ l.length) : slcV 1 (ints l .n) (some (.int kd (z : Int))) none none = some (ints (l.drop z) (SC.dr l.isEmpty z .n)) := by
  have := Yco (f := fI) l .n kd (z : Int) (by omega) (by omega)
  rw [this]; simp
section
variable {k k' : SC} {ins outs : Nat} {rows : List (List (Int × Int))}
/-- States that were visited, with their words. -/
def AllV (r : List (Nat × Word)) (n : Nat) (out : List Int) : Prop := ∀ x ∈ out, ∃ (t : Nat) (w : Word), x = t ∧ t < n ∧ lk r t = some w ∧ w.length ≤ 1000
def wd (r : List (Nat × Word)) (x : Int) : Word := (lk r x.toNat).getD []
theorem L34_2 {r : List (Nat × Word)} {n s : Nat} {ws : Word} {out : List Int} (hn : n ≤ 64) (hol : out.length ≤ 64) (hout : AllV r n out) (hs : s < n) (hws : lk r s = some ws) {x0 x1 : Option (Nat × O)} {v4 : V} {e : List V} {g : Nat} (h : e.length = 61 ∧ getE e 3 = enS fO 1 (visL n r) (.c (some n)) ∧ getE e 4 = v4 ∧ getE e 5 = ints out .n ∧ getE e 6 = .int .i64 s ∧ getE e 7 = .int .i64 (0 : Nat)) :
    ∃ ex e' H' g', X AP (.inl (some 2) Ydf) ⟨e, [x0, x1], g, none⟩ = some (ex, ⟨e', H', g', none⟩) ∧
      ex = .exit 2 ∧ H' = [x0, x1, none] ∧ ∃ c : Nat, c ≤ out.length ∧ (∀ j, j < c → ltW (wd r (out.getD j 0)) ws = true) ∧ (c < out.length → ltW (wd r (out.getD c 0)) ws = false) ∧ (e'.length = 61 ∧ getE e' 3 = enS fO 1 (visL n r) (.c (some n)) ∧ getE e' 4 = v4 ∧ getE e' 5 = ints out .n ∧ getE e' 6 = .int .i64 s ∧ getE e' 7 = .int .i64 c) := by
  refine Zbx (fun k1 e H g => ∃ (c : Nat) (K : Heap), k1 + c = out.length ∧ (∀ j, j < c → ltW (wd r (out.getD j 0)) ws = true) ∧ (e.length = 61 ∧ getE e 3 = enS fO 1 (visL n r) (.c (some n)) ∧ getE e 4 = v4 ∧ getE e 5 = ints out .n ∧ getE e 6 = .int .i64 s ∧ getE e 7 = .int .i64 c) ∧ H = x0 :: x1 :: K) _ ?_ out.length e _ g ⟨0, [], by omega, by intro j hj; omega, h, rfl⟩
  rintro k1 e H g ⟨c, K, hk, hlt, ⟨he, h3, h4, h5, h6, h7⟩, rfl⟩
  unfold Ydf
  have w1 : IntKind.i64.wrap ((c : Int) + 1) = ((c + 1 : Nat) : Int) := by rw [Zay (by omega) (by omega)]; rfl
  have l1 := Zcq n r
  by_cases hc : c < out.length
  · obtain ⟨t, w, ht, htn, hlk, hwl⟩ := hout _ (Zci 0 hc)
    have g1 := Zdt (vis := r) htn
    have g2 := Zdt (vis := r) hs
    rw [hlk] at g1
    rw [hws] at g2
    have c85 := f85 w ws (kdW w) (kdW ws) (by omega)
    have e1 : encO (some w) = ints w (kdW w) := rfl
    have e2 : encO (some ws) = ints ws (kdW ws) := rfl
    have hwd : wd r (out.getD c 0) = w := by unfold wd; rw [ht, Int.toNat_natCast, hlk]; rfl
    by_cases hq : ltW w ws = true
    · rw [hq] at c85
      simp (disch := first | exact dJ | fail) only [go_sem, Nat.reduceAdd, Nat.reduceMul, Nat.reduceSub, Nat.reduceLeDiff, Nat.reduceLT, Nat.reduceEqDiff, h3, h4, h5, h6, h7, he, w1, Zan, Zaf, Zai, List.getD_cons_zero, Zam, Zao, Zap, Zah, Zaj, Zae, Zad, Zag, Zqq, ht, g1, g2, e1, e2, c85]
      refine ⟨_, _, _, _, rfl, .inl ⟨rfl, k1 - 1, by omega, c + 1, _, by omega, ?_, ⟨gQ he, gQ h3, gQ h4, gQ h5, gQ h6, gQ he⟩, rfl⟩⟩
      intro j hj
      by_cases hjc : j < c
      · exact hlt j hjc
      · have : j = c := by omega
        subst this
        rw [hwd]; exact hq
    · have hq' : ltW w ws = false := by simpa using hq
      rw [hq'] at c85
      simp (disch := first | exact dJ | fail) only [go_sem, Nat.reduceAdd, Nat.reduceMul, Nat.reduceSub, Nat.reduceLeDiff, Nat.reduceLT, Nat.reduceEqDiff, h3, h4, h5, h6, h7, he, w1, Zan, Zaf, Zai, List.getD_cons_zero, Zam, Zao, Zap, Zah, Zaj, Zae, Zad, Zag, Zqq, ht, g1, g2, e1, e2, c85]
      exact ⟨_, _, _, _, rfl, .inr ⟨by simp, rfl, rfl, c, by omega, hlt, fun _ => by rw [hwd]; exact hq', ⟨gQ he, gQ h3, gQ h4, gQ h5, gQ h6, gQ h7⟩⟩⟩
  · have hc' : c = out.length := by omega
    subst hc'
    simp (disch := first | exact dJ | fail) only [go_sem, Nat.reduceAdd, Nat.reduceMul, Nat.reduceSub, Nat.reduceLeDiff, Nat.reduceLT, Nat.reduceEqDiff, h3, h4, h5, h6, h7, he, w1, Zan, Zaf, Zai, List.getD_cons_zero, Zam, Zao, Zap, Zah, Zaj, Zae, Zad, Zag]
    exact ⟨_, _, _, _, rfl, .inr ⟨by simp, rfl, rfl, out.length, by omega, hlt, fun h => absurd h (by omega), ⟨gQ he, gQ h3, gQ h4, gQ h5, gQ h6, gQ h7⟩⟩⟩
/-- A state put in its place among others, by their words. -/
def insO (r : List (Nat × Word)) (s : Nat) (out : List Int) : List Int :=
  out.takeWhile (fun x => ltW (wd r x) (wd r s)) ++ (s : Int) :: out.dropWhile (fun x => ltW (wd r x) (wd r s))
def ordN (r : List (Nat × Word)) : Nat → List Int
  | 0 => []
  | s + 1 => if (lk r s).isSome then insO r s (ordN r s) else ordN r s
theorem cutW {α : Type} (p : α → Bool) (d : α) : ∀ (l : List α) (c : Nat), c ≤ l.length → (∀ j, j < c → p (l.getD j d) = true) → (c < l.length → p (l.getD c d) = false) → l.take c = l.takeWhile p ∧ l.drop c = l.dropWhile p
  | [], c, hc, _, _ => by simp at hc; subst hc; exact ⟨rfl, rfl⟩
  | a :: l, 0, _, _, h => by
    have : p a = false := h (by simp)
    simp [List.takeWhile, List.dropWhile, this]
  | a :: l, c + 1, hc, h1, h2 => by
    have h0 : p a = true := h1 0 (by omega)
    obtain ⟨i1, i2⟩ := cutW p d l c (by simpa using hc) (fun j hj => by have := h1 (j + 1) (by omega); simpa using this) (fun h => by have := h2 (by simpa using h); simpa using this)
    simp [List.takeWhile, List.dropWhile, h0, i1, i2]
theorem Yaw (r : List (Nat × Word)) (s : Nat) (out : List Int) : (insO r s out).length = out.length + 1 := by
  unfold insO
  have := congrArg List.length (List.takeWhile_append_dropWhile (p := fun x => ltW (wd r x) (wd r s)) (l := out))
  simp only [List.length_append, List.length_cons] at this ⊢; omega
theorem Zsj {r : List (Nat × Word)} {s : Nat} {out : List Int} {x : Int} : x ∈ insO r s out ↔ x = s ∨ x ∈ out := by
  unfold insO
  have := List.takeWhile_append_dropWhile (p := fun x => ltW (wd r x) (wd r s)) (l := out)
  conv => rhs; rw [← this]
  simp only [List.mem_append, List.mem_cons]
  constructor
  · rintro (h | h | h)
    · exact .inr (.inl h)
    · exact .inl h
    · exact .inr (.inr h)
  · rintro (h | h | h)
    · exact .inr (.inl h)
    · exact .inl h
    · exact .inr (.inr h)
theorem Zny (r : List (Nat × Word)) : ∀ s, (ordN r s).length ≤ s
  | 0 => Nat.le_refl _
  | s + 1 => by
    have := Zny r s
    unfold ordN
    split
    · rw [Yaw]; omega
    · omega
theorem Znx {r : List (Nat × Word)} {n : Nat} (hw : ∀ t w, lk r t = some w → w.length ≤ 1000) : ∀ s, s ≤ n → AllV r n (ordN r s)
  | 0, _ => by intro x hx; cases hx
  | s + 1, hs => by
    have ih := Znx (n := n) hw s (by omega)
    unfold ordN
    split
    · rename_i h
      intro x hx
      rcases Zsj.mp hx with rfl | hx
      · obtain ⟨w, hw'⟩ := Option.isSome_iff_exists.mp h
        exact ⟨s, w, rfl, by omega, hw', hw _ _ hw'⟩
      · exact ih x hx
    · exact ih
theorem L34_1 {r : List (Nat × Word)} {n : Nat} (hn : n ≤ 64) (hw : ∀ t w, lk r t = some w → w.length ≤ 1000) {x0 x1 : Option (Nat × O)} {e : List V} {g : Nat} (h : e.length = 61 ∧ getE e 3 = enS fO 1 (visL n r) (.c (some n)) ∧ getE e 4 = enS fB 1 (visB n r) (.c (some n)) ∧ getE e 5 = ints (ordN r (0 : Nat)) .n ∧ getE e 6 = .int .i64 (0 : Nat)) :
    ∃ ex e' H' g', X AP (.inl (some 2) Yez) ⟨e, [x0, x1], g, none⟩ = some (ex, ⟨e', H', g', none⟩) ∧ ex = .exit 0 ∧ H' = [x0, x1] ∧ e'.length = 61 ∧ getE e' 3 = enS fO 1 (visL n r) (.c (some n)) ∧ getE e' 4 = enS fB 1 (visB n r) (.c (some n)) ∧ getE e' 5 = ints (ordN r n) .n ∧ getE e' 6 = .int .i64 n := by
  refine Zbx (fun k1 e H g => ∃ (s : Nat) (K : Heap), k1 + s = n ∧ (e.length = 61 ∧ getE e 3 = enS fO 1 (visL n r) (.c (some n)) ∧ getE e 4 = enS fB 1 (visB n r) (.c (some n)) ∧ getE e 5 = ints (ordN r s) .n ∧ getE e 6 = .int .i64 s) ∧ H = x0 :: x1 :: K) _ ?_ n e _ g ⟨0, [], by omega, h, rfl⟩
  rintro k1 e H g ⟨s, K, hk, ⟨he, h3, h4, h5, h6⟩, rfl⟩
  unfold Yez
  have w1 : IntKind.i64.wrap ((s : Int) + 1) = ((s + 1 : Nat) : Int) := by rw [Zay (by omega) (by omega)]; rfl
  have l1 := Zcq n r
  have l2 := Zcr n r
  by_cases hlt : s < n
  · have g2 := Zes (vis := r) hlt
    cases hlk : lk r s with
    | none =>
      rw [hlk] at g2
      simp only [Option.isSome_none] at g2
      have ho : ordN r (s + 1) = ordN r s := by conv => lhs; unfold ordN; rw [hlk]; simp
      simp (disch := first | exact dJ | fail) only [go_sem, Nat.reduceAdd, Nat.reduceMul, Nat.reduceSub, Nat.reduceLeDiff, Nat.reduceLT, Nat.reduceEqDiff, h3, h4, h5, h6, he, w1, Zan, Zaf, Zai, List.getD_cons_zero, Zam, Zao, Zap, Zah, Zaj, Zae, Zad, Zag, Zeq, g2, l1, l2]
      refine ⟨_, _, _, _, rfl, .inl ⟨rfl, k1 - 1, by omega, s + 1, _, by omega, ?_, rfl⟩⟩
      rw [ho]
      exact ⟨gQ he, gQ h3, gQ h4, gQ h5, gQ he⟩
    | some ws =>
      rw [hlk] at g2
      simp only [Option.isSome_some] at g2
      have hal := Znx hw s (Nat.le_of_lt hlt)
      have hol := Zny r s
      have hws : wd r s = ws := by unfold wd; simp [hlk]
      have ho : ordN r (s + 1) = insO r s (ordN r s) := by conv => lhs; unfold ordN; rw [hlk]; simp
      generalize hout : ordN r s = out at *
      simp (disch := first | exact dJ | fail) only [go_sem, Nat.reduceAdd, Nat.reduceMul, Nat.reduceSub, Nat.reduceLeDiff, Nat.reduceLT, Nat.reduceEqDiff, h3, h4, h5, h6, he, w1, Zan, Zaf, Zai, List.getD_cons_zero, Zam, Zao, Zap, Zah, Zaj, Zae, Zad, Zag, Zeq, g2, l1, l2]
      generalize hE : putE _ _ _ = E
      have hEl : E.length = 61 := by subst hE; simp (disch := first | exact dG | fail) only [Zab, Zaa, Zac, he]
      have p3 : getE E 3 = enS fO 1 (visL n r) (.c (some n)) := by subst hE; exact gQ h3
      have p4 : getE E 4 = enS fB 1 (visB n r) (.c (some n)) := by subst hE; exact gQ h4
      have p5 : getE E 5 = ints out .n := by subst hE; exact gQ h5
      have p6 : getE E 6 = .int .i64 s := by subst hE; exact gQ h6
      have p7 : getE E 7 = .int .i64 (0 : Nat) := by subst hE; exact gZ he
      obtain ⟨ex, e1, H1, g1, hx, rfl, rfl, c, hc, hc1, hc2, he1, q3, q4, q5, q6, q7⟩ := L34_2 (x0 := x0) (x1 := x1) (v4 := enS fB 1 (visB n r) (.c (some n))) (g := g) hn (by omega) hal hlt hlk ⟨hEl, p3, p4, p5, p6, p7⟩
      rw [hx]
      obtain ⟨t1, t2⟩ := cutW (fun x => ltW (wd r x) ws) 0 out c hc hc1 hc2
      have lt1 : (out.take c).length = c := by rw [List.length_take]; omega
      have lt2 : (out.drop c).length = out.length - c := by simp
      have sl1 := slcH_I out .i64 c hc
      have sl2 := slcL_I out .i64 c hc
      have hi : insO r s out = out.take c ++ [(s : Int)] ++ out.drop c := by unfold insO; rw [hws, t1, t2, List.append_assoc]; rfl
      clear t1 t2
      generalize hA : out.take c = A at *
      generalize hB : out.drop c = B at *
      simp (disch := first | exact dJ | fail) only [go_sem, Nat.reduceAdd, Nat.reduceMul, Nat.reduceSub, Nat.reduceLeDiff, Nat.reduceLT, Nat.reduceEqDiff, q3, q4, q5, q6, q7, he1, w1, Zan, Zaf, Zai, List.getD_cons_zero, Zam, Zao, Zap, Zah, Zaj, Zae, Zad, Zag, Zeq, sl1, sl2, Zwe, Zzi, lt1, lt2]
      refine ⟨_, _, _, _, rfl, .inl ⟨rfl, k1 - 1, by omega, s + 1, _, by omega, ?_, rfl⟩⟩
      rw [ho, hi]
      exact ⟨gQ he1, gQ q3, gQ q4, gQ he1, gQ he1⟩
  · have hs : s = n := by omega
    subst hs
    simp (disch := first | exact dJ | fail) only [go_sem, Nat.reduceAdd, Nat.reduceMul, Nat.reduceSub, Nat.reduceLeDiff, Nat.reduceLT, Nat.reduceEqDiff, h3, h4, h5, h6, he, w1, Zan, Zaf, Zai, List.getD_cons_zero, Zam, Zao, Zap, Zah, Zaj, Zae, Zad, Zag, l1, l2]
    exact ⟨_, _, _, _, rfl, .inr ⟨by simp, rfl, rfl, gQ he, gQ h3, gQ h4, gQ h5, gQ h6⟩⟩
theorem f34 (hm : OKM ins outs rows) {r : List (Nat × Word)} (hw : ∀ t w, lk r t = some w → w.length ≤ 1000) (hF : Fifo rows ins 0 [[]] [] r) : Zaq AP (X AP) false 34 [encM k k' ins outs rows] = some (ints (ordN r rows.length) .n, none) := by
  have hn2 := hm.n2
  have c4 := f4 (k := k) (k' := k') (outs := outs) hm hF
  obtain ⟨e, he, hg, hx⟩ := Zat AP34 (args := [encM k k' ins outs rows]) rfl (by decide)
  have he : e.length = 61 := he
  have h0 : getE e 0 = encM k k' ins outs rows := hg 0 (by simp only [List.length_cons]; omega)
  rw [hx]; clear hx hg; unfold c34
  simp (disch := first | exact dJ | fail) only [go_sem, Nat.reduceAdd, Nat.reduceMul, Nat.reduceSub, Nat.reduceLeDiff, Nat.reduceLT, Nat.reduceEqDiff, h0, he, Zan, Zaf, Zai, List.getD_cons_zero, Zam, Zao, Zap, Zah, Zaj, Zae, Zad, Zag, c4]
  generalize hE : putE _ _ _ = E
  have hEl : E.length = 61 := by subst hE; simp (disch := first | exact dG | fail) only [Zab, Zaa, Zac, he]
  have p3 : getE E 3 = enS fO 1 (visL rows.length r) (.c (some rows.length)) := by subst hE; exact gQ he
  have p4 : getE E 4 = enS fB 1 (visB rows.length r) (.c (some rows.length)) := by subst hE; exact gQ he
  have p5 : getE E 5 = .nils := by subst hE; exact gQ he
  have p6 : getE E 6 = .int .i64 (0 : Nat) := by subst hE; exact gZ he
  obtain ⟨ex, e1, H1, g1, hx, rfl, rfl, he1, q3, q4, q5, q6⟩ := L34_1 (x0 := some (0, oM k k' ins outs rows)) (x1 := none) (g := 2) hn2 hw ⟨hEl, p3, p4, p5, p6⟩
  rw [hx]
  simp (disch := first | exact dJ | fail) only [go_sem, Nat.reduceAdd, Nat.reduceMul, Nat.reduceSub, Nat.reduceLeDiff, Nat.reduceLT, Nat.reduceEqDiff, q3, q4, q5, q6, he1]
theorem f12 (hm : OKM ins outs rows) {r : List (Nat × Word)} (hw : ∀ t w, lk r t = some w → w.length ≤ 1000) (hF : Fifo rows ins 0 [[]] [] r) : Zaq AP (X AP) false 12 [encM k k' ins outs rows] = some (encM .n .n ins outs (Zbs rows ins (ordN r rows.length)), none) := by
  have hn2 := hm.n2
  have c34 := f34 (k := k) (k' := k') hm hw hF
  have hal := Znx hw rows.length (Nat.le_refl _)
  have hol := Zny r rows.length
  have c35 := f35 (k := k) (k' := k') hm (l := ordN r rows.length) (kl := .n) (by omega) (fun x hx => by obtain ⟨t, w, rfl, ht, _⟩ := hal x hx; omega)
  obtain ⟨e, he, hg, hx⟩ := Zat AP12 (args := [encM k k' ins outs rows]) rfl (by decide)
  have he : e.length = 7 := he
  have h0 : getE e 0 = encM k k' ins outs rows := hg 0 (by simp only [List.length_cons]; omega)
  rw [hx]; clear hx hg; unfold c12
  simp (disch := first | exact dJ | fail) only [go_sem, Nat.reduceAdd, Nat.reduceMul, Nat.reduceSub, Nat.reduceLeDiff, Nat.reduceLT, Nat.reduceEqDiff, h0, he, Zan, Zaf, Zai, List.getD_cons_zero, Zam, Zao, Zap, Zah, Zaj, Zae, Zad, Zag, c34, c35]
end
end Go.AM
