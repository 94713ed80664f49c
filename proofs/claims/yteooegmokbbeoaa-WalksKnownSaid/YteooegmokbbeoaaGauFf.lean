/- The reference's paths: words tried one after the other. -/
import Derived.Test.YteooegmokbbeoaaGauFc
set_option linter.unusedVariables false
set_option linter.unusedSimpArgs false
namespace Go.AM
abbrev Word := List Int
def kdW (w : Word) : SC := if w.isEmpty then .c (some 0) else .n
def fW (w : Word) : List V := [enS fI 1 w (kdW w)]
def encO : Option Word → V
  | none => .nils
  | some w => enS fI 1 w (kdW w)
def fO (o : Option Word) : List V := [encO o]
instance : Enc fW 1 := ⟨fun _ => rfl, by decide, fun _ => by simp [fW, Zax, Zbi, Zcf]⟩
instance : Enc fO 1 := ⟨fun _ => rfl, by decide, fun o => by cases o <;> simp [fO, encO, Zax, Zbi, Zcf, Zak]⟩
theorem Zzm {l : List Word} {i : Nat} (h : i < l.length) : ldC 1 false (i * 1) (l.flatMap fW) = some (enS fI 1 (l.getD i []) (kdW (l.getD i []))) := by
  rw [Zfc fW 1 false (fun _ => rfl) l i [] h]; rfl
theorem Ycj {id g n : Nat} {H : Heap} (bytes i gi j : Nat) (l : List Word) (w : Word) (kd : Kd) (hw : w.isEmpty = false) (hn : n = l.length) (hb : (n + 1) * bytes ≤ 140737488355328) (h0 : 0 < bytes) (hi : i < H.length) :
    appA bytes id g 1 i gi n none j H (some (grO fW l)) (some (.cells [enS fI 1 w .n] kd)) = some (.sl i g 1 0 (n + 1) none, H.set i (some (g, grO fW (l ++ [w]))), [j, i], [i]) :=
  Zhl bytes i gi j l w kd (by simp [fW, kdW, hw]) hn hb h0 hi
theorem Zxo {id g : Nat} {H : Heap} (i gi j : Nat) (a : Int) (kd ki : Kd) (hi : id < H.length) :
    appA 8 id g 1 i gi 0 (some 0) j H (some (.cells [] ki)) (some (.cells [.int .i64 a] kd)) = some (.sl id g 1 0 1 none, H.set id (some (g, grO fI [a])), [j, i], [id]) :=
  Zyx (f := fI) 8 i gi j 0 [] a kd ki rfl rfl (by decide) (by decide) hi (by decide)
def exts (ins : Nat) (w : Word) : List Word := (List.range ins).map fun (i : Nat) => w ++ [(i : Int)]
section
variable {k k' : SC} {ins outs : Nat} {rows : List (List (Int × Int))}
theorem L7_3 (hi : ins ≤ 16) {try_ : List Word} {kt : SC} {j : Nat} (hj : j < try_.length) {w : Word} (hw : try_.getD j [] = w) (hwl : w.length ≤ 1000) {more : List Word} (hml : more.length ≤ 1000000) {x1 x2 x3 x4 x6 : Option (Nat × O)} {gm : Nat} {v1 v6 v7 : V} {e : List V} {g : Nat} (h : e.length = 84 ∧ getE e 1 = v1 ∧ getE e 2 = .ptr 0 0 0 ∧ getE e 6 = v6 ∧ getE e 7 = v7 ∧ getE e 8 = enS fW 1 try_ kt ∧ getE e 9 = .sl 5 gm 1 0 more.length none ∧ getE e 10 = .int .i64 j ∧ getE e 12 = .int .i64 (0 : Nat)) :
    ∃ ex e' H' g', X AP (.inl (some 7) B7_3) ⟨e, [some (0, oM k k' ins outs rows), x1, x2, x3, x4, some (gm, grO fW more), x6], g, none⟩ = some (ex, ⟨e', H', g', none⟩) ∧
      ex = .exit 4 ∧ ∃ gx, H' = [some (0, oM k k' ins outs rows), x1, x2, x3, x4, some (gx, grO fW (more ++ exts ins w)), x6] ∧ (e'.length = 84 ∧ getE e' 1 = v1 ∧ getE e' 2 = .ptr 0 0 0 ∧ getE e' 6 = v6 ∧ getE e' 7 = v7 ∧ getE e' 8 = enS fW 1 try_ kt ∧ getE e' 9 = .sl 5 gx 1 0 (more.length + ins) none ∧ getE e' 10 = .int .i64 j) := by
  refine Zbx (fun k1 e H g => ∃ (i gx : Nat) (K : Heap), k1 + i = ins ∧ (e.length = 84 ∧ getE e 1 = v1 ∧ getE e 2 = .ptr 0 0 0 ∧ getE e 6 = v6 ∧ getE e 7 = v7 ∧ getE e 8 = enS fW 1 try_ kt ∧ getE e 9 = .sl 5 gx 1 0 (more.length + i) none ∧ getE e 10 = .int .i64 j ∧ getE e 12 = .int .i64 i) ∧
    H = some (0, oM k k' ins outs rows) :: x1 :: x2 :: x3 :: x4 :: some (gx, grO fW (more ++ exts i w)) :: x6 :: K) _ ?_ ins e _ g ⟨0, gm, [], by omega, h, by simp [exts]⟩
  rintro k1 e H g ⟨i, gx, K, hk, ⟨he, h1, h2, h6, h7, h8, h9, h10, h12⟩, rfl⟩
  unfold B7_3
  have w1 : IntKind.i64.wrap ((i : Int) + 1) = ((i + 1 : Nat) : Int) := by rw [Zay (by omega) (by omega)]; rfl
  have hl : (more ++ exts i w).length = more.length + i := by simp [exts]
  have hx : more ++ exts i w ++ [w ++ [(i : Int)]] = more ++ exts (i + 1) w := by simp [exts, List.range_succ]
  by_cases hlt : i < ins
  · cases w with
    | nil =>
      have c1 : kdW ([] : Word) = .c (some 0) := rfl
      have c2 : ([(i : Int)] : Word).isEmpty = false := rfl
      simp (disch := first | exact dJ | fail) only [go_sem, Nat.reduceAdd, Nat.reduceMul, Nat.reduceSub, Nat.reduceLeDiff, Nat.reduceLT, Nat.reduceEqDiff, h1, h2, h6, h7, h8, h9, h10, h12, he, w1, Zan, Zaf, Zai, List.getD_cons_zero, Zam, Zao, Zap, Zah, Zaj, Zae, Zad, Zag, Zzm, hw, Ycj, Zxo, c1, hl, c2, List.flatMap_nil]
      exact ⟨_, _, _, _, rfl, .inl ⟨rfl, k1 - 1, by omega, i + 1, _, _, by omega, ⟨gQ he, gQ h1, gQ h2, gQ h6, gQ h7, gQ h8, gQ he, gQ h10, gQ he⟩, by rw [← hx] <;> rfl⟩⟩
    | cons a w' =>
      have c1 : kdW (a :: w') = .n := rfl
      have c2 : ((a :: w') ++ [(i : Int)] : Word).isEmpty = false := rfl
      have c3 : a :: w' ≠ [] := by simp
      generalize hww : a :: w' = w at *
      have c2' : (w ++ [(i : Int)]).isEmpty = false := c2
      simp (disch := first | exact dJ | fail) only [go_sem, Nat.reduceAdd, Nat.reduceMul, Nat.reduceSub, Nat.reduceLeDiff, Nat.reduceLT, Nat.reduceEqDiff, h1, h2, h6, h7, h8, h9, h10, h12, he, w1, Zan, Zaf, Zai, List.getD_cons_zero, Zam, Zao, Zap, Zah, Zaj, Zae, Zad, Zag, Zzm, hw, Ycj, Zxo, c1, hl, c2']
      exact ⟨_, _, _, _, rfl, .inl ⟨rfl, k1 - 1, by omega, i + 1, _, _, by omega, ⟨gQ he, gQ h1, gQ h2, gQ h6, gQ h7, gQ h8, gQ he, gQ h10, gQ he⟩, by rw [← hx] <;> rfl⟩⟩
  · have hi' : i = ins := by omega
    subst hi'
    simp (disch := first | exact dJ | fail) only [go_sem, Nat.reduceAdd, Nat.reduceMul, Nat.reduceSub, Nat.reduceLeDiff, Nat.reduceLT, Nat.reduceEqDiff, h1, h2, h6, h7, h8, h9, h10, h12, he, w1, Zan, Zaf, Zai, List.getD_cons_zero, Zam, Zao, Zap, Zah, Zaj, Zae, Zad, Zag]
    exact ⟨_, _, _, _, rfl, .inr ⟨by simp, rfl, _, rfl, ⟨gQ he, gQ h1, gQ h2, gQ h6, gQ h7, gQ h8, gQ h9, gQ h10⟩⟩⟩

/-! ### Words tried in a row -/
def lk : List (Nat × Word) → Nat → Option Word
  | [], _ => none
  | (s, w) :: r, t => if s = t then some w else lk r t
theorem Zds (a : List (Nat × Word)) (s : Nat) (w : Word) (t : Nat) : lk (a ++ [(s, w)]) t = match lk a t with | some v => some v | none => if s = t then some w else none := by
  induction a with
  | nil => rfl
  | cons x r ih =>
    obtain ⟨s', w'⟩ := x
    simp only [List.cons_append, lk]
    split
    · rfl
    · exact ih
/-- Words are tried one after the other; what leads to a new state is tried with each input more, behind the others. -/
inductive Fifo (rows : List (List (Int × Int))) (ins : Nat) (fr : Int) : List Word → List (Nat × Word) → List (Nat × Word) → Prop
  | nil (vis : List (Nat × Word)) : Fifo rows ins fr [] vis vis
  | skip {c : Word} {cs : List Word} {vis r : List (Nat × Word)} (h : aft rows fr c < 0 ∨ lk vis (aft rows fr c).toNat ≠ none) (hr : Fifo rows ins fr cs vis r) : Fifo rows ins fr (c :: cs) vis r
  | visit {c : Word} {cs : List Word} {vis r : List (Nat × Word)} (h : ¬ (aft rows fr c < 0 ∨ lk vis (aft rows fr c).toNat ≠ none)) (hr : Fifo rows ins fr (cs ++ exts ins c) (vis ++ [((aft rows fr c).toNat, c)]) r) : Fifo rows ins fr (c :: cs) vis r
def visL (n : Nat) (vis : List (Nat × Word)) : List (Option Word) := (List.range n).map (lk vis)
def visB (n : Nat) (vis : List (Nat × Word)) : List Bool := (List.range n).map fun t => (lk vis t).isSome
theorem Zcq (n : Nat) (vis : List (Nat × Word)) : (visL n vis).length = n := by simp [visL]
theorem Zcr (n : Nat) (vis : List (Nat × Word)) : (visB n vis).length = n := by simp [visB]
theorem Zdt {n : Nat} {vis : List (Nat × Word)} {t : Nat} (h : t < n) : (visL n vis).getD t none = lk vis t := by simp [visL, List.getD_eq_getElem?_getD, h]
theorem Zes {n : Nat} {vis : List (Nat × Word)} {t : Nat} (h : t < n) : (visB n vis).getD t false = (lk vis t).isSome := by simp [visB, List.getD_eq_getElem?_getD, h]
theorem Zqu {α : Type} {a : α} (f g : Nat → α) (n t : Nat) (ht : t < n) (hg : g t = a) (hf : ∀ s, s ≠ t → g s = f s) : ((List.range n).map f).set t a = (List.range n).map g := by
  apply List.ext_getElem (by simp)
  intro i h1 h2
  simp only [List.length_set, List.length_map, List.length_range] at h1
  rw [List.getElem_set]
  split
  · rename_i e; subst e; simp [hg]
  · rename_i e; simp [hf i (fun h => e h.symm)]
theorem Znv {n t : Nat} {vis : List (Nat × Word)} {w : Word} (ht : t < n) (hv : lk vis t = none) : (visL n vis).set t (some w) = visL n (vis ++ [(t, w)]) := by
  refine Zqu _ _ n t ht ?_ fun s hs => ?_
  · rw [Zds, hv]; simp
  · rw [Zds]; cases lk vis s with
    | none => simp [Ne.symm hs]
    | some v => rfl
theorem Zix {n t : Nat} {vis : List (Nat × Word)} {w : Word} (ht : t < n) (hv : lk vis t = none) : (visB n vis).set t true = visB n (vis ++ [(t, w)]) := by
  refine Zqu _ _ n t ht ?_ fun s hs => ?_
  · rw [Zds, hv]; simp
  · rw [Zds]; cases lk vis s with
    | none => simp [Ne.symm hs]
    | some v => rfl
theorem Zqq {l : List (Option Word)} {i : Nat} (h : i < l.length) : ldC 1 false (i * 1) (l.flatMap fO) = some (encO (l.getD i none)) := by
  rw [Zfc fO 1 false (fun _ => rfl) l i none h]; rfl
theorem Yby {l : List (Option Word)} {i : Nat} {w : Word} (h : i < l.length) : Zbf (l.flatMap fO) (i * 1) [enS fI 1 w (kdW w)] = (l.set i (some w)).flatMap fO := Zeo (f := fO) l i (some w) h
theorem Zwq (l : List (Option Word)) : (l.flatMap fO).length = l.length := by rw [Zbn (f := fO)]; omega
def unv (n : Nat) (vis : List (Nat × Word)) : Nat := (List.range n).countP fun t => (lk vis t).isNone
theorem Zmj (p q : Nat → Bool) (t : Nat) (hp : p t = true) (hq : q t = false) (h : ∀ s, s ≠ t → q s = p s) : ∀ n, (List.range n).countP q + (if t < n then 1 else 0) = (List.range n).countP p
  | 0 => by simp
  | n + 1 => by
    have ih := Zmj p q t hp hq h n
    simp only [List.range_succ, List.countP_append, List.countP_singleton]
    by_cases h1 : n = t
    · subst h1
      simp only [hp, hq, Nat.lt_irrefl, if_false] at ih ⊢
      simp; omega
    · rw [h n h1]
      by_cases h2 : t < n
      · rw [if_pos h2] at ih; rw [if_pos (show t < n + 1 by omega)]; omega
      · rw [if_neg h2] at ih; rw [if_neg (show ¬ t < n + 1 by omega)]; omega
theorem Zgl {n t : Nat} {vis : List (Nat × Word)} {w : Word} (ht : t < n) (hv : lk vis t = none) : unv n (vis ++ [(t, w)]) + 1 = unv n vis := by
  have := Zmj (fun t => (lk vis t).isNone) (fun s => (lk (vis ++ [(t, w)]) s).isNone) t (by simp [hv]) (by simp [Zds, hv]) (fun s hs => by
    simp only [Zds]
    cases lk vis s with
    | none => simp [Ne.symm hs]
    | some v => rfl) n
  rw [if_pos ht] at this
  exact this
theorem Zkv (hm : OKM ins outs rows) : ∀ {w : Word} {s : Int}, St1 rows s → Wd ins w → St1 rows (aft rows s w)
  | [], _, hs, _ => hs
  | i :: w, s, hs, hw => Zkv hm (w := w) (hs.nxt hm (hw i List.mem_cons_self)) fun x hx => hw x (List.mem_cons_of_mem _ hx)
theorem Znp {w : Word} (hw : Wd ins w) {u : Word} (hu : u ∈ exts ins w) : Wd ins u ∧ u.length = w.length + 1 := by
  simp only [exts, List.mem_map, List.mem_range] at hu
  obtain ⟨i, hi, rfl⟩ := hu
  refine ⟨fun x hx => ?_, by simp⟩
  rcases List.mem_append.mp hx with h | h
  · exact hw x h
  · simp only [List.mem_singleton] at h; subst h; omega
theorem L7_2 (hm : OKM ins outs rows) {fr : Int} (hfr : St1 rows fr) {n : Nat} (hn : n = rows.length) {d : Nat} {r vis0 : List (Nat × Word)} {try_ : List Word} {kt : SC} (hf : Fifo rows ins fr try_ vis0 r) (htl : try_.length ≤ 16 * vis0.length + 1) (hd : d ≤ vis0.length) (hu0 : vis0.length + unv n vis0 = n) (htw : ∀ w ∈ try_, Wd ins w ∧ w.length = d)
    {x3 x4 : Option (Nat × O)} {g5 : Nat} {e : List V} {g : Nat} (h : e.length = 84 ∧ getE e 1 = .int .i64 fr ∧ getE e 2 = .ptr 0 0 0 ∧ getE e 6 = .sl 1 1 1 0 n (some n) ∧ getE e 7 = .sl 2 2 1 0 n (some n) ∧ getE e 8 = enS fW 1 try_ kt ∧ getE e 9 = .sl 5 g5 1 0 (0 : Nat) none ∧ getE e 10 = .int .i64 (0 : Nat)) :
    ∃ ex e' H' g', X AP (.inl (some 6) B7_2) ⟨e, [some (0, oM k k' ins outs rows), some (1, .cells ((visL n vis0).flatMap fO) .fixed), some (2, .cells ((visB n vis0).flatMap fB) .fixed), x3, x4, some (g5, .cells [] .nilo)], g, none⟩ = some (ex, ⟨e', H', g', none⟩) ∧
      ex = .exit 2 ∧ ∃ gx vis more, H' = [some (0, oM k k' ins outs rows), some (1, .cells ((visL n vis).flatMap fO) .fixed), some (2, .cells ((visB n vis).flatMap fB) .fixed), x3, x4, some (gx, grO fW more)] ∧ (e'.length = 84 ∧ getE e' 1 = .int .i64 fr ∧ getE e' 2 = .ptr 0 0 0 ∧ getE e' 6 = .sl 1 1 1 0 n (some n) ∧ getE e' 7 = .sl 2 2 1 0 n (some n) ∧ getE e' 9 = .sl 5 gx 1 0 more.length none) ∧
        Fifo rows ins fr more vis r ∧ more.length ≤ 16 * vis.length ∧ vis.length + unv n vis = n ∧ (∀ w ∈ more, Wd ins w ∧ w.length = d + 1) ∧ vis0.length ≤ vis.length ∧ (more ≠ [] → vis0.length < vis.length) := by
  have hn2 := hm.n2
  refine Zbx (fun k1 e H g => ∃ (i gx : Nat) (vis : List (Nat × Word)) (more : List Word) (K : Heap), k1 + i = try_.length ∧ (e.length = 84 ∧ getE e 1 = .int .i64 fr ∧ getE e 2 = .ptr 0 0 0 ∧ getE e 6 = .sl 1 1 1 0 n (some n) ∧ getE e 7 = .sl 2 2 1 0 n (some n) ∧ getE e 8 = enS fW 1 try_ kt ∧ getE e 9 = .sl 5 gx 1 0 more.length none ∧ getE e 10 = .int .i64 i) ∧
    H = some (0, oM k k' ins outs rows) :: some (1, .cells ((visL n vis).flatMap fO) .fixed) :: some (2, .cells ((visB n vis).flatMap fB) .fixed) :: x3 :: x4 :: some (gx, grO fW more) :: K ∧
    Fifo rows ins fr (try_.drop i ++ more) vis r ∧ more.length ≤ 16 * vis.length ∧ vis.length + unv n vis = n ∧ (∀ w ∈ more, Wd ins w ∧ w.length = d + 1) ∧ vis0.length ≤ vis.length ∧ (more ≠ [] → vis0.length < vis.length)) _ ?_ try_.length e _ g ⟨0, g5, vis0, [], [], by omega, h, rfl, by simpa using hf, by simp, hu0, by simp, Nat.le_refl _, by simp⟩
  rintro k1 e H g ⟨i, gx, vis, more, K, hk, ⟨he, h1, h2, h6, h7, h8, h9, h10⟩, rfl, hF, hml, hu, hmw, hvl, hme⟩
  unfold B7_2
  have w1 : IntKind.i64.wrap ((i : Int) + 1) = ((i + 1 : Nat) : Int) := by rw [Zay (by omega) (by omega)]; rfl
  by_cases hlt : i < try_.length
  · generalize hw : try_.getD i [] = w
    have hmem : w ∈ try_ := by rw [← hw, List.getD_eq_getElem?_getD, List.getElem?_eq_getElem hlt]; exact List.getElem_mem hlt
    obtain ⟨hww, hwl⟩ := htw w hmem
    have hdr : try_.drop i = w :: try_.drop (i + 1) := by
      rw [List.drop_eq_getElem_cons hlt]; congr 1
      rw [← hw, List.getD_eq_getElem?_getD, List.getElem?_eq_getElem hlt]; rfl
    rw [hdr] at hF
    have c1 := f21 (k := k) (k' := k') (outs := outs) hm w (kdW w) fr hfr hww
    have hst := Zkv hm hfr hww
    generalize ht : aft rows fr w = t at *
    have hBl := Zcr n vis
    have hLl := Zcq n vis
    have hfb : ((visB n vis).flatMap fB).length = n := by rw [Zdp, hBl]
    have hfo : ((visL n vis).flatMap fO).length = n := by rw [Zwq, hLl]
    have htn := hst.2
    by_cases hneg : t < 0
    · have hF' : Fifo rows ins fr (try_.drop (i + 1) ++ more) vis r := by
        cases hF with
        | skip h hr => exact hr
        | visit h hr => exact absurd (.inl (by rw [ht]; exact hneg)) h
      simp (disch := first | exact dJ | fail) only [go_sem, Nat.reduceAdd, Nat.reduceMul, Nat.reduceSub, Nat.reduceLeDiff, Nat.reduceLT, Nat.reduceEqDiff, h1, h2, h6, h7, h8, h9, h10, he, w1, Zan, Zaf, Zai, List.getD_cons_zero, Zam, Zao, Zap, Zah, Zaj, Zae, Zad, Zag, Zzm, hw, c1]
      exact ⟨_, _, _, _, rfl, .inl ⟨rfl, k1 - 1, by omega, i + 1, gx, vis, more, _, by omega, ⟨gQ he, gQ h1, gQ h2, gQ h6, gQ h7, gQ h8, gQ h9, gQ he⟩, rfl, hF', hml, hu, hmw, hvl, hme⟩⟩
    · obtain ⟨tn, rfl⟩ : ∃ tn : Nat, t = tn := ⟨t.toNat, by omega⟩
      have htn' : tn < n := by omega
      have hg := Zes (vis := vis) htn'
      by_cases hv : lk vis tn = none
      · rw [hv] at hg
        simp only [Option.isSome_none] at hg
        have hF' : Fifo rows ins fr (try_.drop (i + 1) ++ more ++ exts ins w) (vis ++ [(tn, w)]) r := by
          cases hF with
          | skip h hr => rw [ht] at h; simp only [Int.toNat_natCast] at h; rcases h with h | h
                         · omega
                         · exact absurd hv h
          | visit h hr => rw [ht] at hr; exact hr
        simp (disch := first | exact dJ | fail) only [go_sem, Nat.reduceAdd, Nat.reduceMul, Nat.reduceSub, Nat.reduceLeDiff, Nat.reduceLT, Nat.reduceEqDiff, h1, h2, h6, h7, h8, h9, h10, he, w1, Zan, Zaf, Zai, List.getD_cons_zero, Zam, Zao, Zap, Zah, Zaj, Zae, Zad, Zag, Zzm, hw, c1, Zeq, hg, Zer, Yby]
        generalize hE : putE _ _ _ = E
        have hEl : E.length = 84 := by subst hE; simp (disch := first | exact dG | fail) only [Zab, Zaa, Zac, he]
        have p1 : getE E 1 = .int .i64 fr := by subst hE; exact gQ h1
        have p2 : getE E 2 = .ptr 0 0 0 := by subst hE; exact gQ h2
        have p6 : getE E 6 = .sl 1 1 1 0 n (some n) := by subst hE; exact gQ h6
        have p7 : getE E 7 = .sl 2 2 1 0 n (some n) := by subst hE; exact gQ h7
        have p8 : getE E 8 = enS fW 1 try_ kt := by subst hE; exact gQ h8
        have p9 : getE E 9 = .sl 5 gx 1 0 more.length none := by subst hE; exact gQ h9
        have p10 : getE E 10 = .int .i64 i := by subst hE; exact gQ h10
        have p12 : getE E 12 = .int .i64 (0 : Nat) := by subst hE; exact gZ he
        obtain ⟨ex, e1, H1, g1, hx, rfl, gy, rfl, he1, h11, h21, h61, h71, h81, h91, h101⟩ := L7_3 (k := k) (k' := k') (rows := rows) (outs := outs) (x1 := some (1, .cells ((visL n (vis ++ [(tn, w)])).flatMap fO) .fixed)) (x2 := some (2, .cells ((visB n (vis ++ [(tn, w)])).flatMap fB) .fixed)) (x3 := x3) (x4 := x4) (x6 := none) (g := g + 1) hm.i2 hlt hw (by omega) (by omega) ⟨hEl, p1, p2, p6, p7, p8, p9, p10, p12⟩
        rw [Znv htn' hv, Zix htn' hv, hx]
        have hu' := Zgl (w := w) htn' hv
        have hml' : (more ++ exts ins w).length = more.length + ins := by simp [exts]
        have hi2 := hm.i2
        simp (disch := first | exact dJ | fail) only [go_sem, Nat.reduceAdd, Nat.reduceMul, Nat.reduceSub, Nat.reduceLeDiff, Nat.reduceLT, Nat.reduceEqDiff, h11, h21, h61, h71, h81, h91, h101, he1, w1]
        refine ⟨_, _, _, _, rfl, .inl ⟨rfl, k1 - 1, by omega, i + 1, gy, vis ++ [(tn, w)], more ++ exts ins w, _, by omega, ⟨gQ he1, gQ h11, gQ h21, gQ h61, gQ h71, gQ h81, by rw [hml']; simp (disch := first | exact dG | fail) only [Zab, Zaa, Zac, h91], (gQ he1)⟩, rfl, by simpa [List.append_assoc] using hF', by rw [hml']; simp; omega, by simp; omega, ?_, by simp; omega, fun _ => by simp; omega⟩⟩
        intro u hu1
        rcases List.mem_append.mp hu1 with h | h
        · exact hmw u h
        · obtain ⟨q1, q2⟩ := Znp hww h
          exact ⟨q1, by omega⟩
      · have hF' : Fifo rows ins fr (try_.drop (i + 1) ++ more) vis r := by
          cases hF with
          | skip h hr => exact hr
          | visit h hr => exact absurd (.inr (by rw [ht]; exact hv)) h
        have hg' : (visB n vis).getD tn false = true := by
          rw [hg]; cases h : lk vis tn with
          | none => exact absurd h hv
          | some v => rfl
        simp (disch := first | exact dJ | fail) only [go_sem, Nat.reduceAdd, Nat.reduceMul, Nat.reduceSub, Nat.reduceLeDiff, Nat.reduceLT, Nat.reduceEqDiff, h1, h2, h6, h7, h8, h9, h10, he, w1, Zan, Zaf, Zai, List.getD_cons_zero, Zam, Zao, Zap, Zah, Zaj, Zae, Zad, Zag, Zzm, hw, c1, Zeq, hg']
        exact ⟨_, _, _, _, rfl, .inl ⟨rfl, k1 - 1, by omega, i + 1, gx, vis, more, _, by omega, ⟨gQ he, gQ h1, gQ h2, gQ h6, gQ h7, gQ h8, gQ h9, gQ he⟩, rfl, hF', hml, hu, hmw, hvl, hme⟩⟩
  · have hi' : try_.length ≤ i := by omega
    rw [List.drop_eq_nil_of_le hi', List.nil_append] at hF
    simp (disch := first | exact dJ | fail) only [go_sem, Nat.reduceAdd, Nat.reduceMul, Nat.reduceSub, Nat.reduceLeDiff, Nat.reduceLT, Nat.reduceEqDiff, h1, h2, h6, h7, h8, h9, h10, he, w1, Zan, Zaf, Zai, List.getD_cons_zero, Zam, Zao, Zap, Zah, Zaj, Zae, Zad, Zag]
    exact ⟨_, _, _, _, rfl, .inr ⟨by simp, rfl, gx, vis, more, rfl, ⟨gQ he, gQ h1, gQ h2, gQ h6, gQ h7, gQ h9⟩, hF, hml, hu, hmw, hvl, hme⟩⟩
theorem L7_1 (hm : OKM ins outs rows) {fr : Int} (hfr : St1 rows fr) {n : Nat} (hn : n = rows.length) {r : List (Nat × Word)} (hf : Fifo rows ins fr [[]] [] r) {x3 x4 : Option (Nat × O)} {e : List V} {g : Nat} (h : e.length = 84 ∧ getE e 1 = .int .i64 fr ∧ getE e 2 = .ptr 0 0 0 ∧ getE e 6 = .sl 1 1 1 0 n (some n) ∧ getE e 7 = .sl 2 2 1 0 n (some n) ∧ getE e 8 = enS fW 1 [[]] (.c (some 1))) :
    ∃ ex e' H' g', X AP (.inl (some 5) B7_1) ⟨e, [some (0, oM k k' ins outs rows), some (1, .cells ((visL n []).flatMap fO) .fixed), some (2, .cells ((visB n []).flatMap fB) .fixed), x3, x4], g, none⟩ = some (ex, ⟨e', H', g', none⟩) ∧
      ex = .exit 0 ∧ H' = [some (0, oM k k' ins outs rows), some (1, .cells ((visL n r).flatMap fO) .fixed), some (2, .cells ((visB n r).flatMap fB) .fixed), x3, x4] ∧ (e'.length = 84 ∧ getE e' 6 = .sl 1 1 1 0 n (some n) ∧ getE e' 7 = .sl 2 2 1 0 n (some n)) := by
  have hn2 := hm.n2
  have hn1 := hm.n1
  have hu0 : unv n [] = n := by unfold unv; simp [lk]
  refine Zbx (fun k1 e H g => ∃ (d : Nat) (vis : List (Nat × Word)) (try_ : List Word) (kt : SC) (K : Heap), k1 = 2 * unv n vis + (if try_ = [] then 0 else 1) ∧ (e.length = 84 ∧ getE e 1 = .int .i64 fr ∧ getE e 2 = .ptr 0 0 0 ∧ getE e 6 = .sl 1 1 1 0 n (some n) ∧ getE e 7 = .sl 2 2 1 0 n (some n) ∧ getE e 8 = enS fW 1 try_ kt) ∧
    H = some (0, oM k k' ins outs rows) :: some (1, .cells ((visL n vis).flatMap fO) .fixed) :: some (2, .cells ((visB n vis).flatMap fB) .fixed) :: x3 :: x4 :: K ∧
    Fifo rows ins fr try_ vis r ∧ try_.length ≤ 16 * vis.length + 1 ∧ (try_ ≠ [] → d ≤ vis.length) ∧ vis.length + unv n vis = n ∧ (∀ w ∈ try_, Wd ins w ∧ w.length = d)) _ ?_ (2 * n + 1) e _ g ⟨0, [], [[]], .c (some 1), [], by rw [hu0]; simp, h, rfl, hf, by simp, by simp, by rw [hu0]; simp, by simp [Wd]⟩
  rintro k1 e H g ⟨d, vis, try_, kt, K, rfl, ⟨he, h1, h2, h6, h7, h8⟩, rfl, hF, htl, hd, hu, htw⟩
  unfold B7_1
  by_cases hte : try_ = []
  · subst hte
    simp (disch := first | exact dJ | fail) only [go_sem, Nat.reduceAdd, Nat.reduceMul, Nat.reduceSub, Nat.reduceLeDiff, Nat.reduceLT, Nat.reduceEqDiff, h1, h2, h6, h7, h8, he, Zan, Zaf, Zai, List.getD_cons_zero, Zam, Zao, Zap, Zah, Zaj, Zae, Zad, Zag]
    cases hF
    exact ⟨_, _, _, _, rfl, .inr ⟨by simp, rfl, rfl, ⟨gQ he, gQ h6, gQ h7⟩⟩⟩
  · have htp : 0 < try_.length := List.length_pos_iff.mpr hte
    simp (disch := first | exact dJ | fail) only [go_sem, Nat.reduceAdd, Nat.reduceMul, Nat.reduceSub, Nat.reduceLeDiff, Nat.reduceLT, Nat.reduceEqDiff, h1, h2, h6, h7, h8, he, Zan, Zaf, Zai, List.getD_cons_zero, Zam, Zao, Zap, Zah, Zaj, Zae, Zad, Zag]
    generalize hE : putE _ _ _ = E
    have hEl : E.length = 84 := by subst hE; simp (disch := first | exact dG | fail) only [Zab, Zaa, Zac, he]
    have p1 : getE E 1 = .int .i64 fr := by subst hE; exact gQ h1
    have p2 : getE E 2 = .ptr 0 0 0 := by subst hE; exact gQ h2
    have p6 : getE E 6 = .sl 1 1 1 0 n (some n) := by subst hE; exact gQ h6
    have p7 : getE E 7 = .sl 2 2 1 0 n (some n) := by subst hE; exact gQ h7
    have p8 : getE E 8 = enS fW 1 try_ kt := by subst hE; exact gQ h8
    have p9 : getE E 9 = .sl 5 g 1 0 (0 : Nat) none := by subst hE; exact gQ he
    have p10 : getE E 10 = .int .i64 (0 : Nat) := by subst hE; exact gZ he
    obtain ⟨ex, e1, H1, g1, hx, rfl, gy, vis1, more, rfl, ⟨he1, h11, h21, h61, h71, h91⟩, q1, q2, q3, q4, q5, q6⟩ := L7_2 (k := k) (k' := k') (x3 := x3) (x4 := x4) (g := g + 1) hm hfr hn hF htl (hd hte) hu htw ⟨hEl, p1, p2, p6, p7, p8, p9, p10⟩
    rw [hx]
    simp (disch := first | exact dJ | fail) only [go_sem, Nat.reduceAdd, Nat.reduceMul, Nat.reduceSub, Nat.reduceLeDiff, Nat.reduceLT, Nat.reduceEqDiff, h11, h21, h61, h71, h91, he1, Zan, Zaf, Zai, List.getD_cons_zero, Zam, Zao, Zap, Zah, Zaj, Zae, Zad, Zag]
    refine ⟨_, _, _, _, rfl, .inl ⟨rfl, 2 * unv n vis1 + (if more = [] then 0 else 1), ?_, d + 1, vis1, more, .n, _, rfl, ⟨gQ he1, gQ h11, gQ h21, gQ h61, gQ h71, gQ he1⟩, rfl, q1, by omega, fun h => by have := q6 h; have := hd hte; omega, q3, q4⟩⟩
    rw [if_neg hte]
    split
    · omega
    · rename_i hne; have := q6 hne; omega
theorem replO (n : Nat) : (List.replicate n [V.nils]).flatten = (visL n []).flatMap fO := by
  have : visL n [] = List.replicate n none := by
    unfold visL; apply List.ext_getElem (by simp); intro i h1 h2; simp [lk]
  rw [this]; exact Zhj (f := fO) n none
theorem Yck (n : Nat) : (List.replicate n [V.bool false]).flatten = (visB n []).flatMap fB := by
  have : visB n [] = List.replicate n false := by
    unfold visB; apply List.ext_getElem (by simp); intro i h1 h2; simp [lk]
  rw [this]; exact Zhj (f := fB) n false
theorem f7 (hm : OKM ins outs rows) {fr : Int} (hfr : St1 rows fr) {r : List (Nat × Word)} (hf : Fifo rows ins fr [[]] [] r) : Zaq AP (X AP) false 7 [encM k k' ins outs rows, .int .i64 fr] = some (.tup [enS fO 1 (visL rows.length r) (.c (some rows.length)), enS fB 1 (visB rows.length r) (.c (some rows.length))], none) := by
  have hi := hm.n2
  obtain ⟨e, he, hg, hx⟩ := Zat AP7 (args := [encM k k' ins outs rows, .int .i64 fr]) rfl (by decide)
  have he : e.length = 84 := he
  have h0 : getE e 0 = encM k k' ins outs rows := hg 0 (by simp only [List.length_cons]; omega)
  have h1 : getE e 1 = .int .i64 fr := hg 1 (by simp only [List.length_cons]; omega)
  rw [hx]; clear hx hg; unfold c7
  simp (disch := first | exact dJ | fail) only [go_sem, Nat.reduceAdd, Nat.reduceMul, Nat.reduceSub, Nat.reduceLeDiff, Nat.reduceLT, Nat.reduceEqDiff, h0, h1, he, Zan, Zaf, Zai, List.getD_cons_zero, Zam, Zao, Zap, Zah, Zaj, Zae, Zad, Zag, Yck, replO]
  generalize hE : putE _ _ _ = E
  have hEl : E.length = 84 := by subst hE; simp (disch := first | exact dG | fail) only [Zab, Zaa, Zac, he]
  have p1 : getE E 1 = .int .i64 fr := by subst hE; exact gQ h1
  have p2 : getE E 2 = .ptr 0 0 0 := by subst hE; exact gQ he
  have p6 : getE E 6 = .sl 1 1 1 0 rows.length (some rows.length) := by subst hE; exact gQ he
  have p7 : getE E 7 = .sl 2 2 1 0 rows.length (some rows.length) := by subst hE; exact gQ he
  have p8 : getE E 8 = enS fW 1 [[]] (.c (some 1)) := by subst hE; simp (disch := first | exact dG | fail) only [Zab, Zaa, Zac, he]; rfl
  obtain ⟨ex, e1, H1, g1, hx, rfl, rfl, he1, h61, h71⟩ := L7_1 (k := k) (k' := k') (x3 := some (3, .cells [] .froz)) (x4 := some (4, .cells [.arr [] 1 0 (some 0)] .froz)) (g := 5) hm hfr rfl hf ⟨hEl, p1, p2, p6, p7, p8⟩
  rw [hx]
  simp (disch := first | exact dJ | fail) only [go_sem, Nat.reduceAdd, Nat.reduceMul, Nat.reduceSub, Nat.reduceLeDiff, Nat.reduceLT, Nat.reduceEqDiff, h61, h71, he1, Zan, Zaf, Zai, List.getD_cons_zero, Zam, Zao, Zap, Zah, Zaj, Zae, Zad, Zag]
  exact Zyj (f := fO) (f' := fB) _ _ _ _ _ _ _ _ .fixed .fixed (by decide) rfl rfl (Zcq ..).symm (Zcr ..).symm (by simp only [Zei, Zeb, if_true] <;> rfl) (by simp only [Zei, Zeb, if_true] <;> rfl)
theorem f4 (hm : OKM ins outs rows) {r : List (Nat × Word)} (hf : Fifo rows ins 0 [[]] [] r) : Zaq AP (X AP) false 4 [encM k k' ins outs rows] = some (.tup [enS fO 1 (visL rows.length r) (.c (some rows.length)), enS fB 1 (visB rows.length r) (.c (some rows.length))], none) := by
  have hn := hm.n1
  have c1 := f7 (k := k) (k' := k') (outs := outs) hm (fr := 0) ⟨by omega, by omega⟩ hf
  obtain ⟨e, he, hg, hx⟩ := Zat AP4 (args := [encM k k' ins outs rows]) rfl (by decide)
  have he : e.length = 8 := he
  have h0 : getE e 0 = encM k k' ins outs rows := hg 0 (by simp only [List.length_cons]; omega)
  rw [hx]; clear hx hg; unfold c4
  simp (disch := first | exact dJ | fail) only [go_sem, Nat.reduceAdd, Nat.reduceMul, Nat.reduceSub, Nat.reduceLeDiff, Nat.reduceLT, Nat.reduceEqDiff, h0, he, Zan, Zaf, Zai, List.getD_cons_zero, Zam, Zao, Zap, Zah, Zaj, Zae, Zad, Zag, c1]
end
end Go.AM
