/- The paths of the program. -/
import Derived.Test.YteooegmokbbeoaaGauFi
import Derived.Test.YteooegmokbbeoaaGauBh
set_option linter.unusedVariables false
set_option linter.unusedSimpArgs false
namespace Go.AM
def kdP (w : Word) : SC := if w.isEmpty then .n else .c (some w.length)
def encP : Option Word → V
  | none => .nils
  | some w => enS fI 1 w (kdP w)
def fP (o : Option Word) : List V := [encP o]
instance : Enc fP 1 := ⟨fun _ => rfl, by decide, fun o => by cases o <;> simp [fP, encP, Zax, Zbi, Zcf, Zak]⟩
theorem Znz {l : List (Option Word)} {i : Nat} (h : i < l.length) : ldC 1 false (i * 1) (l.flatMap fP) = some (encP (l.getD i none)) := by
  rw [Zfc fP 1 false (fun _ => rfl) l i none h]; rfl
theorem Zxr (l : List (Option Word)) : (l.flatMap fP).length = l.length := by rw [Zbn (f := fP)]; omega
theorem Zvc (l : List Int) (k : SC) (hk : k = .n ∨ k = .c none) (kd kd' : IntKind) (h : l ≠ []) : slcV 1 (enS fI 1 l k) none (some (.int kd (l.length : Int))) (some (.int kd' (l.length : Int))) = some (enS fI 1 l (.c (some l.length))) := by
  have := Zqk (f := fI) l k kd kd' (by rcases hk with rfl | rfl <;> simp)
  rcases this with h1 | h1
  · rw [h1]; cases l with
    | nil => exact absurd rfl h
    | cons a t => rfl
  · exact absurd h1.1 h
theorem appN_I {id g : Nat} {H : Heap} (j : Nat) (a : Int) (kd : Kd) (hi : id < H.length) : appN 8 id g 1 j H (some (.cells [.int .i64 a] kd)) = some (.sl id g 1 0 1 none, H.set id (some (g, grO fI [a])), [j], [id]) :=
  Zyg (f := fI) 8 j a kd rfl (by decide) (by decide) hi
theorem f26 {l : List Int} {k : SC} (hk : k = .n ∨ k = .c none) (h : l ≠ []) : Zaq AP (X AP) false 26 [ints l k] = some (ints l (.c (some l.length)), none) := by
  obtain ⟨e, he, hg, hx⟩ := Zat AP26 (args := [ints l k]) rfl (by decide)
  have he : e.length = 9 := he
  have h0 : getE e 0 = ints l k := hg 0 (by simp only [List.length_cons]; omega)
  rw [hx]; clear hx hg; unfold c26
  simp (disch := first | exact dJ | fail) only [go_sem, Nat.reduceAdd, Nat.reduceMul, Nat.reduceSub, Nat.reduceLeDiff, Nat.reduceLT, Nat.reduceEqDiff, h0, he, Zan, Zaf, Zai, List.getD_cons_zero, Zam, Zao, Zap, Zah, Zaj, Zae, Zad, Zag, Zvc]
theorem Ygu : Zaq AP (X AP) true 44 [.nils] = some (.nils, none) := by
  obtain ⟨e, he, hg, hx⟩ := Zpl AP44 (args := [.nils]) rfl (by decide)
  have he : e.length = 8 := he
  have h0 : getE e 0 = .nils := hg 0 (by simp)
  rw [hx]; clear hx hg; unfold c44
  simp (disch := first | exact dJ | fail) only [go_sem, Nat.reduceAdd, Nat.reduceMul, Nat.reduceSub, Nat.reduceLeDiff, Nat.reduceLT, Nat.reduceEqDiff, h0, he, Zan, Zaf, Zai, List.getD_cons_zero, Zam, Zao, Zap, Zah, Zaj, Zae, Zad, Zag, o_eqnN]
  exact Zws _ .ret (.inl rfl) (by simp (disch := first | exact dJ | fail) only [go_sem, Nat.reduceAdd, Nat.reduceMul, Nat.reduceSub, Nat.reduceLeDiff, Nat.reduceLT, Nat.reduceEqDiff, he]) (Zqb)
theorem f44 {w : Word} (hw : w ≠ []) (hl : w.length ≤ 1000000) (k : SC) : Zaq AP (X AP) true 44 [ints w k] = some (.sl 1 1 1 0 w.length none, some (w.flatMap fI, .loose)) := by
  obtain ⟨e, he, hg, hx⟩ := Zpl AP44 (args := [ints w k]) rfl (by decide)
  have he : e.length = 8 := he
  have h0 : getE e 0 = ints w k := hg 0 (by simp)
  rw [hx]; clear hx hg; unfold c44
  simp (disch := first | exact dJ | fail) only [go_sem, Nat.reduceAdd, Nat.reduceMul, Nat.reduceSub, Nat.reduceLeDiff, Nat.reduceLT, Nat.reduceEqDiff, h0, he, Zan, Zaf, Zai, List.getD_cons_zero, Zam, Zao, Zap, Zah, Zaj, Zae, Zad, Zag, o_eqnE]
  exact Yex _ .ret (.inl rfl) (by simp (disch := first | exact dJ | fail) only [go_sem, Nat.reduceAdd, Nat.reduceMul, Nat.reduceSub, Nat.reduceLeDiff, Nat.reduceLT, Nat.reduceEqDiff, he]) (by simp only [Zei, Zeb, if_true]; cases w with | nil => exact absurd rfl hw | cons a t => rfl) rfl (Zdd (f := fI) w) (by rw [Zbn (f := fI)]; omega)
section
variable {k k' : SC} {ins outs : Nat} {rows : List (List (Int × Int))}
theorem f43 (fr : Int) (H : Heap) (γ : Nat) : Zdo AP (X AP) 43 [encM k k' ins outs rows, .int .i64 fr] H γ = some (.fn 58 [] [.ptr H.length γ 0, .ptr (H.length + 1) (γ + 1) 0], H ++ [some (γ, oM k k' ins outs rows), some (γ + 1, .cells [.int .i64 fr] .fixed)], γ + 2) := by
  obtain ⟨e, he, hg, hx⟩ := Zcu γ H AP43 (args := [encM k k' ins outs rows, .int .i64 fr]) rfl (by decide)
  have he : e.length = 6 := he
  have h0 : getE e 0 = encM k k' ins outs rows := hg 0 (by simp only [List.length_cons]; omega)
  have h1 : getE e 1 = .int .i64 fr := hg 1 (by simp only [List.length_cons]; omega)
  rw [hx]; clear hx hg; unfold c43
  simp (disch := first | exact dJ | fail) only [go_sem, Nat.reduceAdd, Nat.reduceMul, Nat.reduceSub, Nat.reduceLeDiff, Nat.reduceLT, Nat.reduceEqDiff, h0, h1, he, Zan, Zaf, Zai, List.getD_cons_zero, Zam, Zao, Zap, Zah, Zaj, Zae, Zad, Zag, Zbv, Zyi, Nat.add_assoc]
/-- What is Zck, one after the other: each by a word of one that was Zck before. -/
def Zip (rows : List (List (Int × Int))) (ins n : Nat) (fr : Int) (r : List (Nat × Word)) : Prop :=
  ∀ ys x zs, r = ys ++ x :: zs → x.1 < n ∧ lk ys x.1 = none ∧ (x.2 = [] ∨ ∃ (u : Word) (i : Int) (fs : Nat), x.2 = u ++ [i] ∧ 0 ≤ i ∧ i < ins ∧ aft rows fr u = fs ∧ fs < n ∧ lk ys fs = some u) ∧ x.2.length ≤ ys.length
theorem Ybo {n t : Nat} {vis : List (Nat × Word)} (ht : t < n) (hv : lk vis t = none) : (visL n (vis ++ [(t, [])])).flatMap fP = (visL n vis).flatMap fP := by
  rw [← Znv ht hv]
  have : ∀ (l : List (Option Word)) (t : Nat), l.getD t none = none → (l.set t (some [])).flatMap fP = l.flatMap fP := by
    intro l
    induction l with
    | nil => intro t _; rfl
    | cons a l ih =>
      intro t h
      cases t with
      | zero => simp only [List.getD_cons_zero] at h; subst h; rfl
      | succ t => simp only [List.set_cons_succ, List.flatMap_cons]; rw [ih t (by simpa using h)]
  exact this _ _ (by rw [Zdt ht]; exact hv)
theorem Znl {l : List (Option Word)} {i : Nat} {w : Word} (h : i < l.length) : Zbf (l.flatMap fP) (i * 1) [enS fI 1 w (kdP w)] = (l.set i (some w)).flatMap fP := Zeo (f := fP) l i (some w) h
theorem replP (n : Nat) : (List.replicate n [V.nils]).flatten = (visL n []).flatMap fP := by
  have : visL n [] = List.replicate n none := by
    unfold visL; apply List.ext_getElem (by simp); intro i h1 h2; simp [lk]
  rw [this]; exact Zhj (f := fP) n none
def C19 (k k' : SC) (ins outs : Nat) (rows : List (List (Int × Int))) (f n : Nat) (e0 : List V) (st : LSt) (ys : List (Nat × Word)) : Heap :=
  [some (0, oM k k' ins outs rows), some (1, .cells ((visL n ys).flatMap fP) .fixed), some (2, .cells ((visB n ys).flatMap fB) .fixed), some (3, .cells [.sl 1 1 1 0 n (some n)] .fixed), some (4, .cells [.sl 2 2 1 0 n (some n)] .fixed), none, some (6, oM k k' ins outs rows), some (7, .cells [.int .i64 f] .fixed), some (8, .loop st none false e0 [20] Zpb Zol)]
theorem Y19 (hm : OKM ins outs rows) {f n : Nat} (hn : n = rows.length) {r : List (Nat × Word)} (hG : Zip rows ins n f r) (hrl : r.length ≤ 64) {e0 : List V} (h : e0.length = 45 ∧ getE e0 6 = .ptr 3 3 0 ∧ getE e0 7 = .ptr 4 4 0) : Yok rows f (.yld 8 8) 9 (fun ys K => K = C19 k k' ins outs rows f n e0 .ready ys) r := by
  intro ys x zs H γ hr hC hb
  obtain ⟨t, w⟩ := x
  obtain ⟨ht, hv, hw, hwl⟩ := hG ys (t, w) zs hr
  obtain ⟨he, h6, h7⟩ := h
  have hC : H.take 9 = C19 k k' ins outs rows f n e0 .ready ys := hC
  have hH : H = C19 k k' ins outs rows f n e0 .ready ys ++ H.drop 9 := by rw [← hC, List.take_append_drop]
  generalize hK : H.drop 9 = K at *
  subst hH
  clear hC hb hK
  have hn2 := hm.n2
  have harr : (arr3 rows f (t, w)).length = 3 := Enc.len (f := arr3 rows f) (t, w)
  have hst : (Zbj (V.agg (arr3 rows f (t, w)))).length = 3 := harr
  have h1 : X AP Zpb ⟨putL e0 [20] [.agg (arr3 rows f (t, w))], C19 k k' ins outs rows f n e0 .ready ys ++ K, γ, some (8, 8)⟩ = some (.normal, ⟨putE (putE e0 20 (.agg (arr3 rows f (t, w)))) 8 (.ptr (K.length + 9) γ 0), C19 k k' ins outs rows f n e0 .ready ys ++ (K ++ [some (γ, .cells (arr3 rows f (t, w)) .fixed)]), γ + 1, some (8, 8)⟩) := by
    unfold Zpb putL putL C19
    simp (disch := first | exact dJ | fail) only [go_sem, Nat.reduceAdd, Nat.reduceMul, Nat.reduceSub, Nat.reduceLeDiff, Nat.reduceLT, Nat.reduceEqDiff, he, h6, h7, Zan, Zaf, Zai, List.getD_cons_zero, Zam, Zao, Zap, Zah, Zaj, Zae, Zad, Zag, Zhx, Zbv, Zbm]
  have h2 : ∃ e2 K2 γ2, X AP Zol ⟨putE (putE e0 20 (.agg (arr3 rows f (t, w)))) 8 (.ptr (K.length + 9) γ 0), C19 k k' ins outs rows f n e0 .busy ys ++ (K ++ [some (γ, .cells (arr3 rows f (t, w)) .fixed)]), γ + 1, some (8, 8)⟩ = some (.normal, ⟨e2, C19 k k' ins outs rows f n e0 .busy (ys ++ [(t, w)]) ++ (K ++ K2), γ2, some (8, 8)⟩) := by
    generalize hE : putE _ 8 _ = E
    have hEl : E.length = 45 := by subst hE; simp (disch := first | exact dG | fail) only [Zab, Zaa, Zac, he]
    have p6 : getE E 6 = .ptr 3 3 0 := by subst hE; exact gQ h6
    have p7 : getE E 7 = .ptr 4 4 0 := by subst hE; exact gQ h7
    have p8 : getE E 8 = .ptr (K.length + 9) γ 0 := by subst hE; exact gQ he
    clear hE
    unfold Zol C19
    have hBl := Zcr n ys
    have hLl := Zcq n ys
    have hfb : ((visB n ys).flatMap fB).length = n := by rw [Zdp, hBl]
    have hfo : ((visL n ys).flatMap fP).length = n := by rw [Zxr, hLl]
    rcases hw with hw | ⟨u, i, fs, hw, hi0, hi1, haf, hfn, hlk⟩
    · simp only at hw
      subst hw
      have hs := Zix (w := []) ht hv
      have hp := Ybo ht hv
      have d0 : ldC 1 false 0 (arr3 rows f (t, [])) = some (.int .i64 t) := Ztd
      have d1 : ldC 1 false 1 (arr3 rows f (t, [])) = some (.int .i64 (-1)) := rfl
      simp (disch := first | exact dJ | fail) only [go_sem, Nat.reduceAdd, Nat.reduceMul, Nat.reduceSub, Nat.reduceLeDiff, Nat.reduceLT, Nat.reduceEqDiff, hEl, p6, p7, p8, Zan, Zaf, Zai, List.getD_cons_zero, Zam, Zao, Zap, Zah, Zaj, Zae, Zad, Zag, Zbm, d0, d1, Zeq, Zer, hs, hp]
      exact ⟨_, _, _, rfl⟩
    · simp only at hw
      subst hw
      have hs := Zix (w := u ++ [i]) ht hv
      have hp := Znv (w := u ++ [i]) ht hv
      have ha3 : arr3 rows f (t, u ++ [i]) = [.int .i64 t, .int .i64 fs, .int .i64 i] := by rw [Zon, haf]
      have hgl := Zdt (vis := ys) hfn
      rw [hlk] at hgl
      rw [ha3]
      by_cases hu : u = []
      · subst hu
        have c1 : encP (some []) = .nils := rfl
        have c2 := Ygu
        have c3 := f26 (l := [i]) (k := .c none) (.inr rfl) (by simp)
        have hne : ([i] : List Int) ≠ [] := by simp
        have c4 : SC.c (some ([i] : Word).length) = kdP ([] ++ [i]) := rfl
        simp (disch := first | exact dK | fail) only [go_sem, Nat.reduceAdd, Nat.reduceMul, Nat.reduceSub, Nat.reduceLeDiff, Nat.reduceLT, Nat.reduceEqDiff, hEl, p6, p7, p8, Zan, Zaf, Zai, List.getD_cons_zero, Zam, Zao, Zap, Zah, Zaj, Zae, Zad, Zag, Zbm, Zeq, Zer, hs, hp, Znz, hgl, c1, Zwz, c2, Zvm, Ycu, Zbc, appN_I, List.append_assoc, Zbr, Zbv, Zdq, Zkm, Zrf, c3, c4, Znl]
        have hfin : Zbf ((visL n ys).flatMap fP) (t * 1) [enS fI 1 [i] (.c (some 1))] = (visL n (ys ++ [(t, [] ++ [i])])).flatMap fP := by rw [← hp]; exact Znl (w := [i]) (by rw [hLl]; exact ht)
        rw [hfin]
        exact ⟨_, _, _, rfl⟩
      · have hul : u.length ≤ 64 := by
          have h1 : (u ++ [i]).length ≤ ys.length := hwl
          have h2 : r.length = (ys ++ (t, u ++ [i]) :: zs).length := by rw [hr]
          simp only [List.length_append, List.length_cons, List.length_nil] at h1 h2
          omega
        have c1 : encP (some u) = enS fI 1 u (kdP u) := rfl
        have c2 := f44 hu (by omega) (kdP u)
        have hne : u ++ [i] ≠ [] := by simp
        have c3 := f26 (l := u ++ [i]) (k := .c none) (.inr rfl) hne
        have hgr : O.cells (u.flatMap fI) Kd.loose = grO fI u := by cases u with
          | nil => exact absurd rfl hu
          | cons a t => rfl
        simp (disch := first | exact dK | fail) only [go_sem, Nat.reduceAdd, Nat.reduceMul, Nat.reduceSub, Nat.reduceLeDiff, Nat.reduceLT, Nat.reduceEqDiff, hEl, p6, p7, p8, Zan, Zaf, Zai, List.getD_cons_zero, Zam, Zao, Zap, Zah, Zaj, Zae, Zad, Zag, Zbm, Zeq, Zer, hs, hp, Znz, hgl, c1, Zwz, c2, Ydn, hgr, Zbc, List.append_assoc, Zbr, Zbv, Zdq, Zkm, Zrf, c3]
        have hfin : Zbf ((visL n ys).flatMap fP) (t * 1) [enS fI 1 (u ++ [i]) (.c (some (u.length + 1)))] = (visL n (ys ++ [(t, u ++ [i])])).flatMap fP := by
          rw [← hp]
          have := Znl (w := u ++ [i]) (l := visL n ys) (i := t) (by rw [hLl]; exact ht)
          rw [← this]
          simp [kdP]
        rw [hfin]
        exact ⟨_, _, _, rfl⟩
  obtain ⟨e2, K2, γ2, h2⟩ := h2
  have h3 := Zkz (P := AP) (id := 8) (g := 8) (args := [.agg (arr3 rows f (t, w))]) (ps := [20]) (keep := false) (p0 := none) (env := e0) (asg := Zpb) (body := Zol) (by rfl) rfl h1 (by rfl) h2 (by rfl)
  have hs8 : ∀ L : Heap, (C19 k k' ins outs rows f n e0 .busy (ys ++ [(t, w)]) ++ L).set 8 (some (8, .loop .ready none false e0 [20] Zpb Zol)) = C19 k k' ins outs rows f n e0 .ready (ys ++ [(t, w)]) ++ L := fun L => rfl
  have hfin : ((C19 k k' ins outs rows f n e0 .ready (ys ++ [(t, w)]) ++ (K ++ K2)).take (C19 k k' ins outs rows f n e0 .ready ys ++ K).length) = C19 k k' ins outs rows f n e0 .ready (ys ++ [(t, w)]) ++ K := by
    rw [← List.append_assoc]
    exact List.take_left' (by simp [C19])
  simp only [Bool.false_eq_true, if_false] at h3
  rw [hs8, hfin] at h3
  exact ⟨_, _, h3, rfl, rfl⟩
theorem f19 (hm : OKM ins outs rows) {f : Nat} (hf : f < rows.length) {r : List (Nat × Word)} (hG : Zip rows ins rows.length f r) (hrl : r.length ≤ 64) (hF : Fifo rows ins f [[]] [] r) : Zaq AP (X AP) false 19 [encM k k' ins outs rows, .int .i64 f] = some (.tup [enS fP 1 (visL rows.length r) (.c (some rows.length)), enS fB 1 (visB rows.length r) (.c (some rows.length))], none) := by
  have hn2 := hm.n2
  obtain ⟨e, he, hg, hx⟩ := Zat AP19 (args := [encM k k' ins outs rows, .int .i64 f]) rfl (by decide)
  have he : e.length = 45 := he
  have h0 : getE e 0 = encM k k' ins outs rows := hg 0 (by simp only [List.length_cons]; omega)
  have h1 : getE e 1 = .int .i64 f := hg 1 (by simp only [List.length_cons]; omega)
  rw [hx]; clear hx hg; unfold c19
  have c43 := f43 (k := k) (k' := k') (ins := ins) (outs := outs) (rows := rows) f
  simp (disch := first | exact dJ | fail) only [go_sem, Nat.reduceAdd, Nat.reduceMul, Nat.reduceSub, Nat.reduceLeDiff, Nat.reduceLT, Nat.reduceEqDiff, h0, h1, he, Zan, Zaf, Zai, List.getD_cons_zero, Zam, Zao, Zap, Zah, Zaj, Zae, Zad, Zag, Yck, replP, c43]
  generalize hE : putE _ _ _ = E
  have hEl : E.length = 45 := by subst hE; simp (disch := first | exact dG | fail) only [Zab, Zaa, Zac, he]
  have p6 : getE E 6 = .ptr 3 3 0 := by subst hE; exact gQ he
  have p7 : getE E 7 = .ptr 4 4 0 := by subst hE; exact gQ he
  have p19 : getE E 19 = .fn 58 [] [.ptr 6 6 0, .ptr 7 7 0] := by subst hE; exact gQ he
  obtain ⟨H', γ', hc, k1, k2⟩ := f58 (k := k) (k' := k') (outs := outs) (kf := .fixed) (im := 6) (gm := 6) (ifr := 7) (gfr := 7) hm hf (Y19 (k := k) (k' := k') hm rfl hG hrl (e0 := E) ⟨hEl, p6, p7⟩) (fun ys K h => by rw [h]; rfl) rfl rfl (fun ys K h => by rw [h]; rfl) hF 9
  have k1 : H'.take 9 = C19 k k' ins outs rows f rows.length E .ready r := k1
  have hlast : getH H' 8 8 = some (.loop .ready none false E [20] Zpb Zol) := by
    rw [← Ziu (b := 9) (by omega), k1]; rfl
  have hxr := Zwx (P := AP) (keep := false) (f := .t 19) (ps := [20]) (asg := Zpb) (body := Zol) (e := E) (γ := 8) (k := 58) (a := []) (b := [.ptr 6 6 0, .ptr 7 7 0]) (H := [some (0, oM k k' ins outs rows), some (1, O.cells (List.flatMap fP (visL rows.length [])) Kd.fixed), some (2, O.cells (List.flatMap fB (visB rows.length [])) Kd.fixed), some (3, O.cells [V.sl 1 1 1 0 rows.length (some rows.length)] Kd.fixed), some (4, O.cells [V.sl 2 2 1 0 rows.length (some rows.length)] Kd.fixed), none, some (6, oM k k' ins outs rows), some (7, O.cells [V.int IntKind.i64 ↑f] Kd.fixed)]) (H2 := H') (γ2 := γ') p19 hc hlast
  rw [hxr]
  have hH8 : H'.take 8 = (C19 k k' ins outs rows f rows.length E .ready r).take 8 := by
    rw [← k1, List.take_take]; rfl
  simp only [List.length_cons, List.length_nil, Nat.zero_add, Nat.reduceAdd, Bool.false_eq_true, if_false, hH8]
  unfold C19
  simp (disch := first | exact dJ | fail) only [go_sem, Nat.reduceAdd, Nat.reduceMul, Nat.reduceSub, Nat.reduceLeDiff, Nat.reduceLT, Nat.reduceEqDiff, p6, p7, hEl, Zan, Zaf, Zai, List.getD_cons_zero, Zam, Zao, Zap, Zah, Zaj, Zae, Zad, Zag]
  exact Zyj (f := fP) (f' := fB) _ _ _ _ _ _ _ _ .fixed .fixed (by decide) rfl rfl (Zcq ..).symm (Zcr ..).symm (by simp only [Zei, Zeb, if_true] <;> rfl) (by simp only [Zei, Zeb, if_true] <;> rfl)
end
end Go.AM

set_option linter.unusedVariables false
set_option linter.unusedSimpArgs false
namespace Go.AM
theorem Ycc {α : Type} {l : List α} {x : α} (d : α) (h : x ∈ l) : ∃ j, j < l.length ∧ l.getD j d = x := by
  obtain ⟨j, hj, rfl⟩ := List.getElem_of_mem h
  exact ⟨j, hj, by rw [List.getD_eq_getElem?_getD, List.getElem?_eq_getElem hj]; rfl⟩
theorem Zci {α : Type} {l : List α} {j : Nat} (d : α) (h : j < l.length) : l.getD j d ∈ l := by
  rw [List.getD_eq_getElem?_getD, List.getElem?_eq_getElem h]; exact List.getElem_mem h
section
variable {k k' : SC} {ins outs : Nat} {rows : List (List (Int × Int))}
theorem isoM {own : List (Nat × Nat)} {id g : Nat} {H : Heap} (k k' : SC) (ins outs : Nat) (rows : List (List (Int × Int))) (x : Opd) (ys : List Opd) (f f2 : Nat) (v : V) (i gi : Nat) (hg : getH H i gi = some (oM k k' ins outs rows)) (hv : Zak v = true) : opR AP own id g (.call .iso x ys) [.fn f [] [], v, .fn f2 [] [.ptr i gi 0]] H = isoF [i] H (Zaq AP (X AP) false f [v, .fn f2 [] [.pf [.int .i64 ins, .int .i64 outs, enS (fR k') 1 rows k] 0]]) :=
  o_isoP x ys f v f2 i gi 0 _ .fixed hv hg (by simp [Zak.pureL, Zak, Zcf]) rfl
theorem f57 : Zaq AP (X AP) false 57 [] = some (.agg [.int .i64 (-1), .int .i64 (-1)], none) := by
  obtain ⟨e, he, hg, hx⟩ := Zat AP57 (args := []) rfl (by decide)
  have he : e.length = 2 := he
  rw [hx]; clear hx hg; unfold c57
  simp (disch := first | exact dJ | fail) only [go_sem, Nat.reduceAdd, Nat.reduceMul, Nat.reduceSub, Nat.reduceLeDiff, Nat.reduceLT, Nat.reduceEqDiff, he, Zan, Zaf, Zai, List.getD_cons_zero, Zam, Zao, Zap, Zah, Zaj, Zae, Zad, Zag]
def fitE (outs n : Nat) (x : Int × Int) : Prop := x = (-1, -1) ∨ (0 ≤ x.1 ∧ x.1 < n ∧ 0 ≤ x.2 ∧ x.2 < outs)
theorem f55 {x : Int × Int} (hx : fitE outs rows.length x) : Zaq AP (X AP) false 55 [encM k k' ins outs rows, .agg [.int .i64 x.1, .int .i64 x.2]] = some (.bool true, none) := by
  have c57 := f57
  obtain ⟨e, he, hg, hx⟩ := Zat AP55 (args := [encM k k' ins outs rows, .agg [.int .i64 x.1, .int .i64 x.2]]) rfl (by decide)
  have he : e.length = 33 := he
  have h0 : getE e 0 = encM k k' ins outs rows := hg 0 (by simp only [List.length_cons]; omega)
  have h1 : getE e 1 = .agg [.int .i64 x.1, .int .i64 x.2] := hg 1 (by simp only [List.length_cons]; omega)
  rw [hx]; clear hx hg; unfold c55
  rcases hx with rfl | ⟨q1, q2, q3, q4⟩
  · simp (disch := first | exact dJ | fail) only [go_sem, Nat.reduceAdd, Nat.reduceMul, Nat.reduceSub, Nat.reduceLeDiff, Nat.reduceLT, Nat.reduceEqDiff, h0, h1, he, Zan, Zaf, Zai, List.getD_cons_zero, Zam, Zao, Zap, Zah, Zaj, Zae, Zad, Zag, c57]
  · have hne : ¬ (x.1 = -1 ∧ x.2 = -1) := by omega
    simp (disch := first | exact dJ | fail) only [go_sem, Nat.reduceAdd, Nat.reduceMul, Nat.reduceSub, Nat.reduceLeDiff, Nat.reduceLT, Nat.reduceEqDiff, h0, h1, he, Zan, Zaf, Zai, List.getD_cons_zero, Zam, Zao, Zap, Zah, Zaj, Zae, Zad, Zag, c57]
theorem f56 {x : Int × Int} (hx : fitE outs rows.length x) (H : Heap) (γ : Nat) : ∃ K γ', Zdo AP (X AP) 56 [.agg [.int .i64 x.1, .int .i64 x.2], .pf [.int .i64 ins, .int .i64 outs, enS (fR k') 1 rows k] 0] H γ = some (.bool false, H ++ K, γ') := by
  have c55 := f55 (k := k) (k' := k') (ins := ins) hx
  obtain ⟨e, he, hg, hx⟩ := Zcu γ H AP56 (args := [.agg [.int .i64 x.1, .int .i64 x.2], .pf [.int .i64 ins, .int .i64 outs, enS (fR k') 1 rows k] 0]) rfl (by decide)
  have he : e.length = 8 := he
  have h0 : getE e 0 = .agg [.int .i64 x.1, .int .i64 x.2] := hg 0 (by simp only [List.length_cons]; omega)
  have h1 : getE e 1 = .pf [.int .i64 ins, .int .i64 outs, enS (fR k') 1 rows k] 0 := hg 1 (by simp only [List.length_cons]; omega)
  rw [hx]; clear hx hg; unfold c56
  simp (disch := first | exact dJ | fail) only [go_sem, Nat.reduceAdd, Nat.reduceMul, Nat.reduceSub, Nat.reduceLeDiff, Nat.reduceLT, Nat.reduceEqDiff, h0, h1, he, Zan, Zaf, Zai, List.getD_cons_zero, Zam, Zao, Zap, Zah, Zaj, Zae, Zad, Zag, c55, Zbv, Zbm, List.append_assoc]
  exact ⟨_, _, rfl⟩
theorem f53 {row : List (Int × Int)} (hr : ∀ x ∈ row, fitE outs rows.length x) (hl : row.length ≤ 1000000) {kr : SC} : Zaq AP (X AP) false 53 [enS fE 2 row kr, .fn 56 [] [.pf [.int .i64 ins, .int .i64 outs, enS (fR k') 1 rows k] 0]] = some (.int .i64 (-1), none) := by
  obtain ⟨e, he, hg, hx⟩ := Zat AP53 (args := [enS fE 2 row kr, .fn 56 [] [.pf [.int .i64 ins, .int .i64 outs, enS (fR k') 1 rows k] 0]]) rfl (by decide)
  have he : e.length = 19 := he
  have h0 : getE e 0 = enS fE 2 row kr := hg 0 (by simp only [List.length_cons]; omega)
  have h1 : getE e 1 = .fn 56 [] [.pf [.int .i64 ins, .int .i64 outs, enS (fR k') 1 rows k] 0] := hg 1 (by simp only [List.length_cons]; omega)
  rw [hx]; clear hx hg; unfold c53
  simp (disch := first | exact dJ | fail) only [go_sem, Nat.reduceAdd, Nat.reduceMul, Nat.reduceSub, Nat.reduceLeDiff, Nat.reduceLT, Nat.reduceEqDiff, h0, h1, he, Zan, Zaf, Zai, List.getD_cons_zero, Zam, Zao, Zap, Zah, Zaj, Zae, Zad, Zag]
  generalize hE : putE _ _ _ = E
  have hEl : E.length = 19 := by subst hE; simp (disch := first | exact dG | fail) only [Zab, Zaa, Zac, he]
  have p0 : getE E 0 = enS fE 2 row kr := by subst hE; exact gQ h0
  have p1 : getE E 1 = .fn 56 [] [.pf [.int .i64 ins, .int .i64 outs, enS (fR k') 1 rows k] 0] := by subst hE; exact gQ h1
  have p7 : getE E 7 = .int .i64 row.length := by subst hE; exact gQ he
  have p8 : getE E 8 = .int .i64 (0 : Nat) := by subst hE; exact gZ he
  have key : ∃ ex e' H' g', X AP (.inl none Yeh) ⟨E, [], 0, none⟩ = some (ex, ⟨e', H', g', none⟩) ∧ ex = .exit 0 ∧ e'.length = 19 := by
    refine Zbx (fun k1 e H g => ∃ i : Nat, k1 + i = row.length ∧ (e.length = 19 ∧ getE e 0 = enS fE 2 row kr ∧ getE e 1 = .fn 56 [] [.pf [.int .i64 ins, .int .i64 outs, enS (fR k') 1 rows k] 0] ∧ getE e 7 = .int .i64 row.length ∧ getE e 8 = .int .i64 i)) _ ?_ row.length E _ 0 ⟨0, by omega, hEl, p0, p1, p7, p8⟩
    rintro k1 e H g ⟨i, hk, he, h0, h1, h7, h8⟩
    unfold Yeh
    have w1 : IntKind.i64.wrap ((i : Int) + 1) = ((i + 1 : Nat) : Int) := by rw [Zay (by omega) (by omega)]; rfl
    by_cases hlt : i < row.length
    · have hfit := hr (row.getD i (0, 0)) (by rw [List.getD_eq_getElem?_getD, List.getElem?_eq_getElem hlt]; exact List.getElem_mem hlt)
      obtain ⟨K, γ', c56⟩ := f56 (k := k) (k' := k') (ins := ins) hfit (H ++ [none]) (g + 1)
      simp (disch := first | exact dJ | fail) only [go_sem, Nat.reduceAdd, Nat.reduceMul, Nat.reduceSub, Nat.reduceLeDiff, Nat.reduceLT, Nat.reduceEqDiff, h0, h1, h7, h8, he, w1, Zan, Zaf, Zai, List.getD_cons_zero, Zam, Zao, Zap, Zah, Zaj, Zae, Zad, Zag, c56]
      exact ⟨_, _, _, _, rfl, .inl ⟨rfl, k1 - 1, by omega, i + 1, by omega, gQ he, gQ h0, gQ h1, gQ h7, gQ he⟩⟩
    · simp (disch := first | exact dJ | fail) only [go_sem, Nat.reduceAdd, Nat.reduceMul, Nat.reduceSub, Nat.reduceLeDiff, Nat.reduceLT, Nat.reduceEqDiff, h0, h1, h7, h8, he, w1, Zan, Zaf, Zai, List.getD_cons_zero, Zam, Zao, Zap, Zah, Zaj, Zae, Zad, Zag]
      exact ⟨_, _, _, _, rfl, .inr ⟨by simp, rfl, (gQ he)⟩⟩
  obtain ⟨ex, e1, H1, g1, hx, rfl, he1⟩ := key
  rw [hx]
  simp (disch := first | exact dJ | fail) only [go_sem, Nat.reduceAdd, Nat.reduceMul, Nat.reduceSub, Nat.reduceLeDiff, Nat.reduceLT, Nat.reduceEqDiff, he1]
theorem f54 {row : List (Int × Int)} (hr : ∀ x ∈ row, fitE outs rows.length x) (hl : row.length ≤ 1000000) {kr : SC} : Zaq AP (X AP) false 54 [enS fE 2 row kr, .fn 56 [] [.pf [.int .i64 ins, .int .i64 outs, enS (fR k') 1 rows k] 0]] = some (.bool false, none) := by
  have c53 := f53 (k := k) (k' := k') (ins := ins) hr hl (kr := kr)
  obtain ⟨e, he, hg, hx⟩ := Zat AP54 (args := [enS fE 2 row kr, .fn 56 [] [.pf [.int .i64 ins, .int .i64 outs, enS (fR k') 1 rows k] 0]]) rfl (by decide)
  have he : e.length = 9 := he
  have h0 : getE e 0 = enS fE 2 row kr := hg 0 (by simp only [List.length_cons]; omega)
  have h1 : getE e 1 = .fn 56 [] [.pf [.int .i64 ins, .int .i64 outs, enS (fR k') 1 rows k] 0] := hg 1 (by simp only [List.length_cons]; omega)
  rw [hx]; clear hx hg; unfold c54
  simp (disch := first | exact dJ | fail) only [go_sem, Nat.reduceAdd, Nat.reduceMul, Nat.reduceSub, Nat.reduceLeDiff, Nat.reduceLT, Nat.reduceEqDiff, h0, h1, he, Zan, Zaf, Zai, List.getD_cons_zero, Zam, Zao, Zap, Zah, Zaj, Zae, Zad, Zag, c53, Zed]
theorem f18 (hm : OKM ins outs rows) : Zaq AP (X AP) false 18 [encM k k' ins outs rows] = some (.int .i64 0, none) := by
  obtain ⟨q1, q2, q3, q4, q5, q6, q7, q8⟩ := id hm
  obtain ⟨e, he, hg, hx⟩ := Zat AP18 (args := [encM k k' ins outs rows]) rfl (by decide)
  have he : e.length = 51 := he
  have h0 : getE e 0 = encM k k' ins outs rows := hg 0 (by simp only [List.length_cons]; omega)
  rw [hx]; clear hx hg; unfold c18
  simp (disch := first | exact dJ | fail) only [go_sem, Nat.reduceAdd, Nat.reduceMul, Nat.reduceSub, Nat.reduceLeDiff, Nat.reduceLT, Nat.reduceEqDiff, h0, he, Zan, Zaf, Zai, List.getD_cons_zero, Zam, Zao, Zap, Zah, Zaj, Zae, Zad, Zag]
  generalize hE : putE _ _ _ = E
  have hEl : E.length = 51 := by subst hE; simp (disch := first | exact dG | fail) only [Zab, Zaa, Zac, he]
  have p1 : getE E 1 = .ptr 0 0 0 := by subst hE; exact gQ he
  have p34 : getE E 34 = enS (fR k') 1 rows k := by subst hE; exact gQ he
  have p35 : getE E 35 = .int .i64 rows.length := by subst hE; exact gQ he
  have p36 : getE E 36 = .int .i64 (0 : Nat) := by subst hE; exact gZ he
  have key : ∃ ex e' H' g', X AP (.inl (some 1) Yfj) ⟨E, [some (0, oM k k' ins outs rows)], 1, none⟩ = some (ex, ⟨e', H', g', none⟩) ∧ ex = .exit 0 ∧ e'.length = 51 := by
    refine Zbx (fun k1 e H g => ∃ (i : Nat) (K : Heap), k1 + i = rows.length ∧ (e.length = 51 ∧ getE e 1 = .ptr 0 0 0 ∧ getE e 34 = enS (fR k') 1 rows k ∧ getE e 35 = .int .i64 rows.length ∧ getE e 36 = .int .i64 i) ∧ H = some (0, oM k k' ins outs rows) :: K) _ ?_ rows.length E _ 1 ⟨0, [], by omega, ⟨hEl, p1, p34, p35, p36⟩, rfl⟩
    rintro k1 e H g ⟨i, K, hk, ⟨he, h1, h34, h35, h36⟩, rfl⟩
    unfold Yfj
    have w1 : IntKind.i64.wrap ((i : Int) + 1) = ((i + 1 : Nat) : Int) := by rw [Zay (by omega) (by omega)]; rfl
    by_cases hlt : i < rows.length
    · have hrow := q7 i hlt
      have c54 := f54 (k := k) (k' := k') (ins := ins) (outs := outs) (rows := rows) (row := rows.getD i []) (kr := k') (fun x hx => by
        obtain ⟨j, hj, rfl⟩ := Ycc (0, 0) hx
        have := q8 i hlt j (by omega)
        exact this) (by omega)
      simp (disch := first | exact dJ | fail) only [go_sem, Nat.reduceAdd, Nat.reduceMul, Nat.reduceSub, Nat.reduceLeDiff, Nat.reduceLT, Nat.reduceEqDiff, h1, h34, h35, h36, he, w1, Zan, Zaf, Zai, List.getD_cons_zero, Zam, Zao, Zap, Zah, Zaj, Zae, Zad, Zag, isoM k k' ins outs rows, c54, Zdf]
      exact ⟨_, _, _, _, rfl, .inl ⟨rfl, k1 - 1, by omega, i + 1, _, by omega, ⟨gQ he, gQ h1, gQ h34, gQ h35, gQ he⟩, rfl⟩⟩
    · simp (disch := first | exact dJ | fail) only [go_sem, Nat.reduceAdd, Nat.reduceMul, Nat.reduceSub, Nat.reduceLeDiff, Nat.reduceLT, Nat.reduceEqDiff, h1, h34, h35, h36, he, w1, Zan, Zaf, Zai, List.getD_cons_zero, Zam, Zao, Zap, Zah, Zaj, Zae, Zad, Zag]
      exact ⟨_, _, _, _, rfl, .inr ⟨by simp, rfl, (gQ he)⟩⟩
  obtain ⟨ex, e1, H1, g1, hx, rfl, he1⟩ := key
  rw [hx]
  simp (disch := first | exact dJ | fail) only [go_sem, Nat.reduceAdd, Nat.reduceMul, Nat.reduceSub, Nat.reduceLeDiff, Nat.reduceLT, Nat.reduceEqDiff, he1]
end
end Go.AM
