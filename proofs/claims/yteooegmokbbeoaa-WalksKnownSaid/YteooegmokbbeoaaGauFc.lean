/- The reference's machines: what their functions compute. -/
import Derived.Test.YteooegmokbbeoaaGauFa
set_option linter.unusedVariables false
set_option linter.unusedSimpArgs false
namespace Go.AM
def edg (rows : List (List (Int × Int))) (s i : Nat) : Int × Int := (rows.getD s []).getD i (0, 0)
def nxt (rows : List (List (Int × Int))) (s i : Int) : Int × Int := if s < 0 then (-1, -1) else edg rows s.toNat i.toNat
def aft (rows : List (List (Int × Int))) : Int → List Int → Int
  | s, [] => s
  | s, i :: w => aft rows (nxt rows s i).1 w
def runW (rows : List (List (Int × Int))) : Int → List Int → List Int
  | _, [] => []
  | s, i :: w => (nxt rows s i).2 :: runW rows (nxt rows s i).1 w
/-- A valid machine. -/
structure OKM (ins outs : Nat) (rows : List (List (Int × Int))) : Prop where
  i1 : 1 ≤ ins
  i2 : ins ≤ 16
  o1 : 1 ≤ outs
  o2 : outs ≤ 16
  n1 : 1 ≤ rows.length
  n2 : rows.length ≤ 64
  len : ∀ s, s < rows.length → (rows.getD s []).length = ins
  ok : ∀ s, s < rows.length → ∀ i, i < ins → edg rows s i = (-1, -1) ∨ (0 ≤ (edg rows s i).1 ∧ (edg rows s i).1 < rows.length ∧ 0 ≤ (edg rows s i).2 ∧ (edg rows s i).2 < outs)
/-- A state, or none. -/
def St1 (rows : List (List (Int × Int))) (s : Int) : Prop := -1 ≤ s ∧ s < rows.length
def Wd (ins : Nat) (w : List Int) : Prop := ∀ x ∈ w, 0 ≤ x ∧ x < ins
theorem St1.nxt {ins outs : Nat} {rows : List (List (Int × Int))} (h : OKM ins outs rows) {s i : Int} (hs : St1 rows s) (hi : 0 ≤ i ∧ i < ins) : St1 rows (nxt rows s i).1 := by
  have := h.n1
  unfold Go.AM.nxt St1 at *
  split
  · simp only; omega
  · rcases h.ok s.toNat (by omega) i.toNat (by omega) with h2 | h2
    · rw [h2]; simp only; omega
    · omega

theorem f20 {k k' : SC} {ins outs : Nat} {rows : List (List (Int × Int))} {s i : Int} (hs : s < rows.length) (hi : ¬ s < 0 → 0 ≤ i ∧ i < (rows.getD s.toNat []).length) : Zaq AP (X AP) false 20 [encM k k' ins outs rows, .int .i64 s, .int .i64 i] = some (.agg [.int .i64 (nxt rows s i).1, .int .i64 (nxt rows s i).2], none) := by
  obtain ⟨e, he, hg, hx⟩ := Zat AP20 (args := [encM k k' ins outs rows, .int .i64 s, .int .i64 i]) rfl (by decide)
  have he : e.length = 18 := he
  have h0 : getE e 0 = encM k k' ins outs rows := hg 0 (by simp only [List.length_cons]; omega)
  have h1 : getE e 1 = .int .i64 s := hg 1 (by simp only [List.length_cons]; omega)
  have h2 : getE e 2 = .int .i64 i := hg 2 (by simp only [List.length_cons]; omega)
  rw [hx]; clear hx hg; unfold c20
  by_cases h : s < 0
  · simp (disch := first | exact dJ | fail) only [go_sem, Nat.reduceAdd, Nat.reduceMul, Nat.reduceSub, Nat.reduceLeDiff, Nat.reduceLT, Nat.reduceEqDiff, h0, h1, h2, he, Zan, Zaf, Zai, List.getD_cons_zero, Zam, Zao, Zap, Zah, Zaj, Zae, Zad, Zag]
    simp [Go.AM.nxt, h]
  · obtain ⟨h3, h4⟩ := hi h
    simp (disch := first | exact dJ | fail) only [go_sem, Nat.reduceAdd, Nat.reduceMul, Nat.reduceSub, Nat.reduceLeDiff, Nat.reduceLT, Nat.reduceEqDiff, h0, h1, h2, he, Zan, Zaf, Zai, List.getD_cons_zero, Zam, Zao, Zap, Zah, Zaj, Zae, Zad, Zag]
    simp [Go.AM.nxt, h, edg]
theorem f21 {k k' : SC} {ins outs : Nat} {rows : List (List (Int × Int))} (hm : OKM ins outs rows) : ∀ (w : List Int) (kw : SC) (s : Int), St1 rows s → Wd ins w → Zaq AP (X AP) false 21 [encM k k' ins outs rows, .int .i64 s, ints w kw] = some (.int .i64 (aft rows s w), none) := by
  intro w
  induction w with
  | nil =>
    intro kw s hs hw
    obtain ⟨e, he, hg, hx⟩ := Zat AP21 (args := [encM k k' ins outs rows, .int .i64 s, ints [] kw]) rfl (by decide)
    have he : e.length = 22 := he
    have h0 : getE e 0 = encM k k' ins outs rows := hg 0 (by simp only [List.length_cons]; omega)
    have h1 : getE e 1 = .int .i64 s := hg 1 (by simp only [List.length_cons]; omega)
    have h2 : getE e 2 = ints [] kw := hg 2 (by simp only [List.length_cons]; omega)
    rw [hx]; clear hx hg; unfold c21
    simp (disch := first | exact dJ | fail) only [go_sem, Nat.reduceAdd, Nat.reduceMul, Nat.reduceSub, Nat.reduceLeDiff, Nat.reduceLT, Nat.reduceEqDiff, h0, h1, h2, he, Zan, Zaf, Zai, List.getD_cons_zero, Zam, Zao, Zap, Zah, Zaj, Zae, Zad, Zag]
    rfl
  | cons i w ih =>
    intro kw s hs hw
    have hi := hw i List.mem_cons_self
    obtain ⟨e, he, hg, hx⟩ := Zat AP21 (args := [encM k k' ins outs rows, .int .i64 s, ints (i :: w) kw]) rfl (by decide)
    have he : e.length = 22 := he
    have h0 : getE e 0 = encM k k' ins outs rows := hg 0 (by simp only [List.length_cons]; omega)
    have h1 : getE e 1 = .int .i64 s := hg 1 (by simp only [List.length_cons]; omega)
    have h2 : getE e 2 = ints (i :: w) kw := hg 2 (by simp only [List.length_cons]; omega)
    rw [hx]; clear hx hg; unfold c21
    have hn : ¬ s < 0 → 0 ≤ i ∧ i < (rows.getD s.toNat []).length := fun h => by
      rw [hm.len s.toNat (by have := hs.2; omega)]; exact hi
    have c1 := f20 (k := k) (k' := k') (ins := ins) (outs := outs) hs.2 hn
    have c2 := fun kw => ih kw (nxt rows s i).1 (hs.nxt hm hi) (fun x hx => hw x (List.mem_cons_of_mem _ hx))
    simp (disch := first | exact dJ | fail) only [go_sem, Nat.reduceAdd, Nat.reduceMul, Nat.reduceSub, Nat.reduceLeDiff, Nat.reduceLT, Nat.reduceEqDiff, h0, h1, h2, he, Zan, Zaf, Zai, List.getD_cons_zero, Zam, Zao, Zap, Zah, Zaj, Zae, Zad, Zag, c1, c2, List.drop_succ_cons]
    rfl

theorem Zye {rows : List (List (Int × Int))} {s : Int} {w : List Int} {i : Nat} (h : i < w.length) : runW rows s (w.drop i) = (nxt rows s (w.getD i 0)).2 :: runW rows (nxt rows s (w.getD i 0)).1 (w.drop (i + 1)) := by
  rw [List.drop_eq_getElem_cons h]
  simp [runW, List.getD_eq_getElem?_getD, h]
theorem L14 {k k' : SC} {ins outs : Nat} {rows : List (List (Int × Int))} (hm : OKM ins outs rows) {w : List Int} {kw : SC} (hw : Wd ins w) (hl : w.length ≤ 1000000) {s : Int} (hs : St1 rows s) {e : List V} {g : Nat} (h : e.length = 31 ∧ getE e 1 = .int .i64 s ∧ getE e 2 = ints w kw ∧ getE e 3 = .ptr 0 0 0 ∧ getE e 7 = .sl 1 1 1 0 (0 : Nat) none ∧ getE e 8 = .int .i64 (0 : Nat)) :
    ∃ ex e' H' g', X AP (.inl (some 2) Yfi) ⟨e, [some (0, .cells [.int .i64 ins, .int .i64 outs, enS (fR k') 1 rows k] .fixed), some (1, .cells [] .nilo)], g, none⟩ = some (ex, ⟨e', H', g', none⟩) ∧
      ex = .exit 0 ∧ e'.length = 31 ∧ ∃ gx b, getE e' 7 = .sl 1 gx 1 0 w.length none ∧ H' = [b, some (gx, grO fI (runW rows s w))] ∧ (runW rows s w).length = w.length := by
  refine Zbx (fun k1 e H g => ∃ (i : Nat) (s' : Int) (gx : Nat) (out : List Int) (K : Heap), k1 + i = w.length ∧ (e.length = 31 ∧ getE e 1 = .int .i64 s' ∧ getE e 2 = ints w kw ∧ getE e 3 = .ptr 0 0 0 ∧ getE e 7 = .sl 1 gx 1 0 i none ∧ getE e 8 = .int .i64 i) ∧ St1 rows s' ∧ out.length = i ∧ runW rows s w = out ++ runW rows s' (w.drop i) ∧
    H = some (0, .cells [.int .i64 ins, .int .i64 outs, enS (fR k') 1 rows k] .fixed) :: some (gx, grO fI out) :: K) _ ?_ w.length e _ g ⟨0, s, 1, [], [], by omega, h, hs, rfl, by simp, rfl⟩
  rintro k1 e H g ⟨i, s', gx, out, K, hk, ⟨he, h1, h2, h3, h7, h8⟩, hs', ho, hr, rfl⟩
  unfold Yfi
  have w1 : IntKind.i64.wrap ((i : Int) + 1) = ((i + 1 : Nat) : Int) := by rw [Zay (by omega) (by omega)]; rfl
  by_cases hlt : i < w.length
  · have hi : 0 ≤ w.getD i 0 ∧ w.getD i 0 < ins := hw _ (by rw [List.getD_eq_getElem?_getD, List.getElem?_eq_getElem hlt]; exact List.getElem_mem hlt)
    have c1 := f20 (k := k) (k' := k') (ins := ins) (outs := outs) (rows := rows) (s := s') (i := w.getD i 0) hs'.2 (fun h => by rw [hm.len s'.toNat (by have := hs'.2; omega)]; exact hi)
    simp (disch := first | exact dJ | fail) only [go_sem, Nat.reduceAdd, Nat.reduceMul, Nat.reduceSub, Nat.reduceLeDiff, Nat.reduceLT, Nat.reduceEqDiff, h1, h2, h3, h7, h8, he, w1, Zan, Zaf, Zai, List.getD_cons_zero, Zam, Zao, Zap, Zah, Zaj, Zae, Zad, Zag, c1]
    exact ⟨_, _, _, _, rfl, .inl ⟨rfl, k1 - 1, by omega, i + 1, _, _, out ++ [(nxt rows s' (w.getD i 0)).2], _, by omega, ⟨gQ he, gQ he, gQ h2, gQ h3, gQ he, gQ he⟩, hs'.nxt hm hi, by simp [ho], by rw [hr, Zye hlt]; simp, rfl⟩⟩
  · have hi' : i = w.length := by omega
    simp (disch := first | exact dJ | fail) only [go_sem, Nat.reduceAdd, Nat.reduceMul, Nat.reduceSub, Nat.reduceLeDiff, Nat.reduceLT, Nat.reduceEqDiff, h1, h2, h3, h7, h8, he, w1, Zan, Zaf, Zai, List.getD_cons_zero, Zam, Zao, Zap, Zah, Zaj, Zae, Zad, Zag]
    rw [hi', List.drop_length] at hr
    simp only [runW, List.append_nil] at hr
    exact ⟨_, _, _, _, rfl, .inr ⟨by simp, rfl, (gQ he), _, _, by simp (disch := first | exact dG | fail) only [Zab, Zaa, Zac, h7, hi'] <;> rfl, by rw [hr], by rw [hr, ho, hi']⟩⟩
theorem f14 {k k' : SC} {ins outs : Nat} {rows : List (List (Int × Int))} (hm : OKM ins outs rows) {w : List Int} {kw : SC} (hw : Wd ins w) (hl : w.length ≤ 1000000) {s : Int} (hs : St1 rows s) : Zaq AP (X AP) false 14 [encM k k' ins outs rows, .int .i64 s, ints w kw] = some (ints (runW rows s w) .n, none) := by
  obtain ⟨e, he, hg, hx⟩ := Zat AP14 (args := [encM k k' ins outs rows, .int .i64 s, ints w kw]) rfl (by decide)
  have he : e.length = 31 := he
  have h0 : getE e 0 = encM k k' ins outs rows := hg 0 (by simp only [List.length_cons]; omega)
  have h1 : getE e 1 = .int .i64 s := hg 1 (by simp only [List.length_cons]; omega)
  have h2 : getE e 2 = ints w kw := hg 2 (by simp only [List.length_cons]; omega)
  rw [hx]; clear hx hg; unfold c14
  simp (disch := first | exact dJ | fail) only [go_sem, Nat.reduceAdd, Nat.reduceMul, Nat.reduceSub, Nat.reduceLeDiff, Nat.reduceLT, Nat.reduceEqDiff, h0, h1, h2, he, Zan, Zaf, Zai, List.getD_cons_zero, Zam, Zao, Zap, Zah, Zaj, Zae, Zad, Zag]
  generalize hE : putE _ _ _ = E
  have hEl : E.length = 31 := by subst hE; simp (disch := first | exact dG | fail) only [Zab, Zaa, Zac, he]
  have p1 : getE E 1 = .int .i64 s := by subst hE; exact gQ h1
  have p2 : getE E 2 = ints w kw := by subst hE; exact gQ h2
  have p3 : getE E 3 = .ptr 0 0 0 := by subst hE; exact gQ he
  have p7 : getE E 7 = .sl 1 1 1 0 (0 : Nat) none := by subst hE; exact gQ he
  have p8 : getE E 8 = .int .i64 (0 : Nat) := by subst hE; exact gZ he
  obtain ⟨ex, e1, H1, g1, hx, rfl, he1, gx, b, h7, rfl, hlen⟩ := L14 (k := k) (k' := k') (outs := outs) (g := 2) hm hw hl hs ⟨hEl, p1, p2, p3, p7, p8⟩
  rw [hx]
  simp (disch := first | exact dJ | fail) only [go_sem, Nat.reduceAdd, Nat.reduceMul, Nat.reduceSub, Nat.reduceLeDiff, Nat.reduceLT, Nat.reduceEqDiff, h7, he1]
  exact Znf _ _ _ _ hlen.symm (by simp only [Zei, Zeb, if_true])
theorem Zpf : ∀ {a b : List Int}, a.length = b.length → (lexI a b = 0 ↔ a = b)
  | [], [], _ => by simp [lexI]
  | a :: as, b :: bs, h => by
    have := Zpf (a := as) (b := bs) (by simpa using h)
    simp only [lexI]
    split
    · constructor
      · intro h; omega
      · intro h; simp only [List.cons.injEq] at h; omega
    · split
      · constructor
        · intro h; omega
        · intro h; simp only [List.cons.injEq] at h; omega
      · rw [this, List.cons.injEq]
        constructor
        · intro h; exact ⟨by omega, h⟩
        · intro h; exact h.2
theorem Zzo (a b : List Int) : cmpI a b = 0 ↔ a = b := by
  unfold cmpI
  split
  · constructor
    · intro h; omega
    · rintro rfl; omega
  · split
    · constructor
      · intro h; omega
      · rintro rfl; omega
    · exact Zpf (by omega)
theorem f15 (a b : List Int) (ka kb : SC) (hb : a.length < 4611686018427387904) : Zaq AP (X AP) false 15 [ints a ka, ints b kb] = some (.bool (decide (a = b)), none) := by
  have c := f22 a b ka kb hb
  obtain ⟨e, he, hg, hx⟩ := Zat AP15 (args := [ints a ka, ints b kb]) rfl (by decide)
  have he : e.length = 9 := he
  have h0 : getE e 0 = ints a ka := hg 0 (by simp only [List.length_cons]; omega)
  have h1 : getE e 1 = ints b kb := hg 1 (by simp only [List.length_cons]; omega)
  rw [hx]; clear hx hg; unfold c15
  simp (disch := first | exact dJ | fail) only [go_sem, Nat.reduceAdd, Nat.reduceMul, Nat.reduceSub, Nat.reduceLeDiff, Nat.reduceLT, Nat.reduceEqDiff, h0, h1, he, Zan, Zaf, Zai, List.getD_cons_zero, Zam, Zao, Zap, Zah, Zaj, Zae, Zad, Zag, c]
  rw [decide_eq_decide.mpr (Zzo a b)]
/-- The capacity is known, and the length. -/
def capOK (l : List Int) : SC → Prop
  | .n => l = []
  | .c o => o = some l.length
theorem Ygc {l : List Int} {k : SC} (h : capOK l k) : capV (ints l k) = some (.int .i64 (l.length : Int)) := by
  cases k with
  | n => cases h; rfl
  | c o => cases h; rfl
theorem f8 {l : List Int} {kl kw : SC} {n : Int} (hl : l.length < 4611686018427387904) (hc : capOK l kl) : Zaq AP (X AP) false 8 [ints l kl, .int .i64 n, ints l kw, .int .i64 n] = some (.bool true, none) := by
  have c := f15 l l kl kw hl
  have d := Ygc hc
  simp only [decide_true] at c
  obtain ⟨e, he, hg, hx⟩ := Zat AP8 (args := [ints l kl, .int .i64 n, ints l kw, .int .i64 n]) rfl (by decide)
  have he : e.length = 24 := he
  have h0 : getE e 0 = ints l kl := hg 0 (by simp only [List.length_cons]; omega)
  have h1 : getE e 1 = .int .i64 n := hg 1 (by simp only [List.length_cons]; omega)
  have h2 : getE e 2 = ints l kw := hg 2 (by simp only [List.length_cons]; omega)
  have h3 : getE e 3 = .int .i64 n := hg 3 (by simp only [List.length_cons]; omega)
  rw [hx]; clear hx hg; unfold c8
  simp (disch := first | exact dJ | fail) only [go_sem, Nat.reduceAdd, Nat.reduceMul, Nat.reduceSub, Nat.reduceLeDiff, Nat.reduceLT, Nat.reduceEqDiff, h0, h1, h2, h3, he, Zan, Zaf, Zai, List.getD_cons_zero, Zam, Zao, Zap, Zah, Zaj, Zae, Zad, Zag, c, d]
end Go.AM

set_option linter.unusedVariables false
set_option linter.unusedSimpArgs false
namespace Go.AM
theorem Zkh {α : Type} (d : α) {a b : List α} (h : a.length = b.length) (hp : ∀ j, j < a.length → a.getD j d = b.getD j d) : a = b := by
  refine List.ext_getElem h fun j h1 h2 => ?_
  have := hp j h1
  rw [List.getD_eq_getElem?_getD, List.getD_eq_getElem?_getD, List.getElem?_eq_getElem h1, List.getElem?_eq_getElem h2] at this
  exact this
abbrev oM (k k' : SC) (ins outs : Nat) (rows : List (List (Int × Int))) : O := .cells [.int .i64 ins, .int .i64 outs, enS (fR k') 1 rows k] .fixed
section
variable {k k' q q' : SC} {i1 o1 i2 o2 : Nat} {r1 r2 : List (List (Int × Int))}
theorem L17_2 {s : Nat} (hs1 : s < r1.length) (hs2 : s < r2.length) (hl : (r1.getD s []).length = (r2.getD s []).length) (hb : (r1.getD s []).length ≤ 1000000) {e : List V} {g : Nat} (h : e.length = 75 ∧ getE e 2 = .ptr 0 0 0 ∧ getE e 3 = .ptr 1 1 0 ∧ getE e 5 = .int .i64 s ∧ getE e 6 = .int .i64 (0 : Nat)) :
    ∃ ex e' H' g', X AP (.inl (some 2) Yea) ⟨e, [some (0, oM k k' i1 o1 r1), some (1, oM q q' i2 o2 r2)], g, none⟩ = some (ex, ⟨e', H', g', none⟩) ∧
      (ex = .exit 2 ∧ H' = [some (0, oM k k' i1 o1 r1), some (1, oM q q' i2 o2 r2)] ∧ (e'.length = 75 ∧ getE e' 2 = .ptr 0 0 0 ∧ getE e' 3 = .ptr 1 1 0 ∧ getE e' 5 = .int .i64 s) ∧ r1.getD s [] = r2.getD s [] ∨ ex = .ret ∧ getE e' 4 = .bool false ∧ r1.getD s [] ≠ r2.getD s []) := by
  refine Zbx (fun k1 e H g => ∃ (i : Nat), k1 + i = (r1.getD s []).length ∧ (e.length = 75 ∧ getE e 2 = .ptr 0 0 0 ∧ getE e 3 = .ptr 1 1 0 ∧ getE e 5 = .int .i64 s ∧ getE e 6 = .int .i64 i) ∧ (∀ j, j < i → (r1.getD s []).getD j (0, 0) = (r2.getD s []).getD j (0, 0)) ∧
    H = [some (0, oM k k' i1 o1 r1), some (1, oM q q' i2 o2 r2)]) _ ?_ (r1.getD s []).length e _ g ⟨0, by omega, h, by intro j hj; omega, rfl⟩
  rintro k1 e H g ⟨i, hk, ⟨he, h2, h3, h5, h6⟩, hp, rfl⟩
  unfold Yea
  have w1 : IntKind.i64.wrap ((i : Int) + 1) = ((i + 1 : Nat) : Int) := by rw [Zay (by omega) (by omega)]; rfl
  by_cases hlt : i < (r1.getD s []).length
  · by_cases hq : ((r1.getD s []).getD i (0, 0)).1 = ((r2.getD s []).getD i (0, 0)).1 ∧ ((r1.getD s []).getD i (0, 0)).2 = ((r2.getD s []).getD i (0, 0)).2
    · simp (disch := first | exact dJ | fail) only [go_sem, Nat.reduceAdd, Nat.reduceMul, Nat.reduceSub, Nat.reduceLeDiff, Nat.reduceLT, Nat.reduceEqDiff, h2, h3, h5, h6, he, w1, Zan, Zaf, Zai, List.getD_cons_zero, Zam, Zao, Zap, Zah, Zaj, Zae, Zad, Zag]
      refine ⟨_, _, _, _, rfl, .inl ⟨rfl, k1 - 1, by omega, i + 1, by omega, ⟨gQ he, gQ h2, gQ h3, gQ h5, gQ he⟩, ?_, rfl⟩⟩
      intro j hj
      by_cases hji : j < i
      · exact hp j hji
      · have : j = i := by omega
        subst this
        exact Prod.ext hq.1 hq.2
    · simp (disch := first | exact dJ | fail) only [go_sem, Nat.reduceAdd, Nat.reduceMul, Nat.reduceSub, Nat.reduceLeDiff, Nat.reduceLT, Nat.reduceEqDiff, h2, h3, h5, h6, he, w1, Zan, Zaf, Zai, List.getD_cons_zero, Zam, Zao, Zap, Zah, Zaj, Zae, Zad, Zag]
      exact ⟨_, _, _, _, rfl, .inr ⟨by simp, .inr ⟨rfl, (gQ he), fun h => hq (by rw [h]; exact ⟨rfl, rfl⟩)⟩⟩⟩
  · simp (disch := first | exact dJ | fail) only [go_sem, Nat.reduceAdd, Nat.reduceMul, Nat.reduceSub, Nat.reduceLeDiff, Nat.reduceLT, Nat.reduceEqDiff, h2, h3, h5, h6, he, w1, Zan, Zaf, Zai, List.getD_cons_zero, Zam, Zao, Zap, Zah, Zaj, Zae, Zad, Zag]
    exact ⟨_, _, _, _, rfl, .inr ⟨by simp, .inl ⟨rfl, rfl, ⟨gQ he, gQ h2, gQ h3, gQ h5⟩, Zkh (0, 0) hl fun j hj => hp j (by omega)⟩⟩⟩
theorem L17_1 (hl : r1.length = r2.length) (hb : r1.length ≤ 1000000) (hr : ∀ s, s < r1.length → (r1.getD s []).length ≤ 1000000) {e : List V} {g : Nat} (h : e.length = 75 ∧ getE e 2 = .ptr 0 0 0 ∧ getE e 3 = .ptr 1 1 0 ∧ getE e 5 = .int .i64 (0 : Nat)) :
    ∃ ex e' H' g', X AP (.inl (some 2) Yhs) ⟨e, [some (0, oM k k' i1 o1 r1), some (1, oM q q' i2 o2 r2)], g, none⟩ = some (ex, ⟨e', H', g', none⟩) ∧
      (ex = .exit 0 ∧ H' = [some (0, oM k k' i1 o1 r1), some (1, oM q q' i2 o2 r2)] ∧ e'.length = 75 ∧ r1 = r2 ∨ ex = .ret ∧ getE e' 4 = .bool false ∧ r1 ≠ r2) := by
  refine Zbx (fun k1 e H g => ∃ (s : Nat), k1 + s = r1.length ∧ (e.length = 75 ∧ getE e 2 = .ptr 0 0 0 ∧ getE e 3 = .ptr 1 1 0 ∧ getE e 5 = .int .i64 s) ∧ (∀ j, j < s → r1.getD j [] = r2.getD j []) ∧
    H = [some (0, oM k k' i1 o1 r1), some (1, oM q q' i2 o2 r2)]) _ ?_ r1.length e _ g ⟨0, by omega, h, by intro j hj; omega, rfl⟩
  rintro k1 e H g ⟨s, hk, ⟨he, h2, h3, h5⟩, hp, rfl⟩
  unfold Yhs
  have w1 : IntKind.i64.wrap ((s : Int) + 1) = ((s + 1 : Nat) : Int) := by rw [Zay (by omega) (by omega)]; rfl
  by_cases hlt : s < r1.length
  · by_cases hq : (r1.getD s []).length = (r2.getD s []).length
    · simp (disch := first | exact dJ | fail) only [go_sem, Nat.reduceAdd, Nat.reduceMul, Nat.reduceSub, Nat.reduceLeDiff, Nat.reduceLT, Nat.reduceEqDiff, h2, h3, h5, he, w1, Zan, Zaf, Zai, List.getD_cons_zero, Zam, Zao, Zap, Zah, Zaj, Zae, Zad, Zag]
      generalize hE : putE _ _ _ = E
      have hEl : E.length = 75 := by subst hE; simp (disch := first | exact dG | fail) only [Zab, Zaa, Zac, he]
      have p2 : getE E 2 = .ptr 0 0 0 := by subst hE; exact gQ h2
      have p3 : getE E 3 = .ptr 1 1 0 := by subst hE; exact gQ h3
      have p5 : getE E 5 = .int .i64 s := by subst hE; exact gQ h5
      have p6 : getE E 6 = .int .i64 (0 : Nat) := by subst hE; exact gZ he
      obtain ⟨ex, e1, H1, g1, hx, h⟩ := L17_2 (k := k) (k' := k') (q := q) (q' := q') (i1 := i1) (i2 := i2) (o1 := o1) (o2 := o2) (g := g) hlt (by omega) hq (hr s hlt) ⟨hEl, p2, p3, p5, p6⟩
      rw [hx]
      rcases h with ⟨rfl, rfl, ⟨he1, h21, h31, h51⟩, hreq⟩ | ⟨rfl, h4, hne⟩
      · simp (disch := first | exact dJ | fail) only [go_sem, Nat.reduceAdd, Nat.reduceMul, Nat.reduceSub, Nat.reduceLeDiff, Nat.reduceLT, Nat.reduceEqDiff, h21, h31, h51, he1, w1]
        refine ⟨_, _, _, _, rfl, .inl ⟨rfl, k1 - 1, by omega, s + 1, by omega, ⟨gQ he1, gQ h21, gQ h31, gQ he1⟩, ?_, rfl⟩⟩
        intro j hj
        by_cases hji : j < s
        · exact hp j hji
        · have : j = s := by omega
          subst this
          exact hreq
      · simp (disch := first | exact dJ | fail) only [go_sem, Nat.reduceAdd, Nat.reduceMul, Nat.reduceSub, Nat.reduceLeDiff, Nat.reduceLT, Nat.reduceEqDiff, h4]
        exact ⟨_, _, _, _, rfl, .inr ⟨by simp, .inr ⟨rfl, h4, fun h => hne (by rw [h])⟩⟩⟩
    · simp (disch := first | exact dJ | fail) only [go_sem, Nat.reduceAdd, Nat.reduceMul, Nat.reduceSub, Nat.reduceLeDiff, Nat.reduceLT, Nat.reduceEqDiff, h2, h3, h5, he, w1, Zan, Zaf, Zai, List.getD_cons_zero, Zam, Zao, Zap, Zah, Zaj, Zae, Zad, Zag]
      exact ⟨_, _, _, _, rfl, .inr ⟨by simp, .inr ⟨rfl, (gQ he), fun h => hq (by rw [h])⟩⟩⟩
  · simp (disch := first | exact dJ | fail) only [go_sem, Nat.reduceAdd, Nat.reduceMul, Nat.reduceSub, Nat.reduceLeDiff, Nat.reduceLT, Nat.reduceEqDiff, h2, h3, h5, he, w1, Zan, Zaf, Zai, List.getD_cons_zero, Zam, Zao, Zap, Zah, Zaj, Zae, Zad, Zag]
    exact ⟨_, _, _, _, rfl, .inr ⟨by simp, .inl ⟨rfl, rfl, (gQ he), Zkh [] hl fun j hj => hp j (by omega)⟩⟩⟩
theorem f17 (hb : r1.length ≤ 1000000) (hr : ∀ s, s < r1.length → (r1.getD s []).length ≤ 1000000) : Zaq AP (X AP) false 17 [encM k k' i1 o1 r1, encM q q' i2 o2 r2] = some (.bool (decide (i1 = i2 ∧ o1 = o2 ∧ r1 = r2)), none) := by
  obtain ⟨e, he, hg, hx⟩ := Zat AP17 (args := [encM k k' i1 o1 r1, encM q q' i2 o2 r2]) rfl (by decide)
  have he : e.length = 75 := he
  have h0 : getE e 0 = encM k k' i1 o1 r1 := hg 0 (by simp only [List.length_cons]; omega)
  have h1 : getE e 1 = encM q q' i2 o2 r2 := hg 1 (by simp only [List.length_cons]; omega)
  rw [hx]; clear hx hg; unfold c17
  by_cases c1 : i1 = i2
  · by_cases c2 : o1 = o2
    · by_cases c3 : r1.length = r2.length
      · simp (disch := first | exact dJ | fail) only [go_sem, Nat.reduceAdd, Nat.reduceMul, Nat.reduceSub, Nat.reduceLeDiff, Nat.reduceLT, Nat.reduceEqDiff, h0, h1, he, Zan, Zaf, Zai, List.getD_cons_zero, Zam, Zao, Zap, Zah, Zaj, Zae, Zad, Zag]
        generalize hE : putE _ _ _ = E
        have hEl : E.length = 75 := by subst hE; simp (disch := first | exact dG | fail) only [Zab, Zaa, Zac, he]
        have p2 : getE E 2 = .ptr 0 0 0 := by subst hE; exact gQ he
        have p3 : getE E 3 = .ptr 1 1 0 := by subst hE; exact gQ he
        have p5 : getE E 5 = .int .i64 (0 : Nat) := by subst hE; exact gZ he
        obtain ⟨ex, e1, H1, g1, hx, h⟩ := L17_1 (k := k) (k' := k') (q := q) (q' := q') (i1 := i1) (i2 := i2) (o1 := o1) (o2 := o2) (g := 2) c3 hb hr ⟨hEl, p2, p3, p5⟩
        rw [hx]
        rcases h with ⟨rfl, rfl, he1, hreq⟩ | ⟨rfl, h4, hne⟩
        · simp (disch := first | exact dJ | fail) only [go_sem, Nat.reduceAdd, Nat.reduceMul, Nat.reduceSub, Nat.reduceLeDiff, Nat.reduceLT, Nat.reduceEqDiff, he1]
          try simp [c1, c2, hreq]
        · simp (disch := first | exact dJ | fail) only [go_sem, Nat.reduceAdd, Nat.reduceMul, Nat.reduceSub, Nat.reduceLeDiff, Nat.reduceLT, Nat.reduceEqDiff, h4]
          try simp [hne]
      · have : r1 ≠ r2 := fun h => c3 (by rw [h])
        simp (disch := first | exact dJ | fail) only [go_sem, Nat.reduceAdd, Nat.reduceMul, Nat.reduceSub, Nat.reduceLeDiff, Nat.reduceLT, Nat.reduceEqDiff, h0, h1, he, Zan, Zaf, Zai, List.getD_cons_zero, Zam, Zao, Zap, Zah, Zaj, Zae, Zad, Zag]
        try simp [this]
    · simp (disch := first | exact dJ | fail) only [go_sem, Nat.reduceAdd, Nat.reduceMul, Nat.reduceSub, Nat.reduceLeDiff, Nat.reduceLT, Nat.reduceEqDiff, h0, h1, he, Zan, Zaf, Zai, List.getD_cons_zero, Zam, Zao, Zap, Zah, Zaj, Zae, Zad, Zag]
      try simp [c2]
  · simp (disch := first | exact dJ | fail) only [go_sem, Nat.reduceAdd, Nat.reduceMul, Nat.reduceSub, Nat.reduceLeDiff, Nat.reduceLT, Nat.reduceEqDiff, h0, h1, he, Zan, Zaf, Zai, List.getD_cons_zero, Zam, Zao, Zap, Zah, Zaj, Zae, Zad, Zag]
    try simp [c1]
end
end Go.AM

set_option linter.unusedVariables false
set_option linter.unusedSimpArgs false
namespace Go.AM
def fB (b : Bool) : List V := [.bool b]
instance : Enc fB 1 := ⟨fun _ => rfl, by decide, fun _ => by simp [fB, Zak.pureL, Zak]⟩
theorem Zeq {l : List Bool} {i : Nat} (h : i < l.length) : ldC 1 false (i * 1) (l.flatMap fB) = some (.bool (l.getD i false)) := by
  rw [Zfc fB 1 false (fun _ => rfl) l i false h]; rfl
theorem Zer {l : List Bool} {i : Nat} {b : Bool} (h : i < l.length) : Zbf (l.flatMap fB) (i * 1) [.bool b] = (l.set i b).flatMap fB := Zeo (f := fB) l i b h
theorem Zdp (l : List Bool) : (l.flatMap fB).length = l.length := by rw [Zbn (f := fB)]; omega
def iter {σ : Type} (f : σ → Nat → σ) : Nat → σ → σ
  | 0, s => s
  | n + 1, s => f (iter f n s) n
section
variable {k k' : SC} {ins outs : Nat} {rows : List (List (Int × Int))}
def rel1 (rows : List (List (Int × Int))) (s : Nat) (L : List Bool) (i : Nat) : List Bool := if L.getD s false = true ∧ 0 ≤ (edg rows s i).1 then L.set (edg rows s i).1.toNat true else L
def relS (rows : List (List (Int × Int))) (ins : Nat) (L : List Bool) (s : Nat) : List Bool := iter (rel1 rows s) ins L
def relR (rows : List (List (Int × Int))) (ins : Nat) (L : List Bool) (_ : Nat) : List Bool := iter (relS rows ins) rows.length L
def Zck (rows : List (List (Int × Int))) (ins : Nat) (from_ : Nat) : List Bool := iter (relR rows ins) rows.length ((List.replicate rows.length false).set from_ true)
theorem Ztq (s : Nat) (L : List Bool) (i : Nat) : (rel1 rows s L i).length = L.length := by unfold rel1; split <;> simp
theorem Zfo {σ : Type} (f : List σ → Nat → List σ) (hf : ∀ L i, (f L i).length = L.length) : ∀ n L, (iter f n L).length = L.length
  | 0, _ => rfl
  | n + 1, L => by simp [iter, hf, Zfo f hf n L]
theorem Zsw (L : List Bool) (s : Nat) : (relS rows ins L s).length = L.length := Zfo _ (Ztq s) _ _
theorem Znh (L : List Bool) (s : Nat) : (relR rows ins L s).length = L.length := Zfo _ (fun L i => Zsw L i) _ _
theorem Zlt (f : Nat) : (Zck rows ins f).length = rows.length := by rw [Zck, Zfo _ (fun L i => Znh L i)]; simp

theorem L33_3 (hm : OKM ins outs rows) {s n : Nat} (hs : s < rows.length) {L : List Bool} (hL : L.length = rows.length) (hn : n = rows.length) {gx : Nat} {e : List V} {g : Nat} (h : e.length = 58 ∧ getE e 2 = .ptr 0 0 0 ∧ getE e 5 = .sl 1 gx 1 0 n (some n) ∧ getE e 7 = .int .i64 s ∧ getE e 8 = .int .i64 (0 : Nat)) :
    ∃ ex e' H' g', X AP (.inl (some 2) Yec) ⟨e, [some (0, oM k k' ins outs rows), some (gx, .cells (L.flatMap fB) .fixed)], g, none⟩ = some (ex, ⟨e', H', g', none⟩) ∧
      ex = .exit 4 ∧ H' = [some (0, oM k k' ins outs rows), some (gx, .cells ((relS rows ins L s).flatMap fB) .fixed)] ∧ (e'.length = 58 ∧ getE e' 2 = .ptr 0 0 0 ∧ getE e' 5 = .sl 1 gx 1 0 n (some n) ∧ getE e' 7 = .int .i64 s) ∧ getE e' 6 = getE e 6 := by
  refine Zbx (fun k1 e1 H g => ∃ (i : Nat), k1 + i = ins ∧ (e1.length = 58 ∧ getE e1 2 = .ptr 0 0 0 ∧ getE e1 5 = .sl 1 gx 1 0 n (some n) ∧ getE e1 7 = .int .i64 s ∧ getE e1 8 = .int .i64 i) ∧ getE e1 6 = getE e 6 ∧
    H = [some (0, oM k k' ins outs rows), some (gx, .cells ((iter (rel1 rows s) i L).flatMap fB) .fixed)]) _ ?_ ins e _ g ⟨0, by omega, h, rfl, rfl⟩
  rintro k1 e H g ⟨i, hk, ⟨he, h2, h5, h7, h8⟩, h6, rfl⟩
  unfold Yec
  have hi := hm.i2
  have w1 : IntKind.i64.wrap ((i : Int) + 1) = ((i + 1 : Nat) : Int) := by rw [Zay (by omega) (by omega)]; rfl
  have hll : (iter (rel1 rows s) i L).length = rows.length := by rw [Zfo _ (Ztq s), hL]
  by_cases hlt : i < ins
  · have hrow := hm.len s hs
    have hok := hm.ok s hs i hlt
    have hed : ((rows.getD s []).getD i (0, 0)).1 = (edg rows s i).1 := rfl
    have hb : (edg rows s i).1 < rows.length := by
      rcases hok with h | h
      · rw [h]; simp only; omega
      · exact h.2.1
    by_cases hq : (iter (rel1 rows s) i L).getD s false = true
    · by_cases hz : 0 ≤ (edg rows s i).1
      · have hfl : ((iter (rel1 rows s) i L).flatMap fB).length = rows.length := by rw [Zdp, hll]
        have hz' : (edg rows s i).1.toNat < (iter (rel1 rows s) i L).length := by omega
        simp (disch := first | exact dJ | fail) only [go_sem, Nat.reduceAdd, Nat.reduceMul, Nat.reduceSub, Nat.reduceLeDiff, Nat.reduceLT, Nat.reduceEqDiff, h2, h5, h7, h8, he, w1, Zan, Zaf, Zai, List.getD_cons_zero, Zam, Zao, Zap, Zah, Zaj, Zae, Zad, Zag, Zeq, Zer, Zdp, hq, hed]
        refine ⟨_, _, _, _, rfl, .inl ⟨rfl, k1 - 1, by omega, i + 1, by omega, ⟨gQ he, gQ h2, gQ h5, gQ h7, gQ he⟩, (gQ h6), ?_⟩⟩
        simp only [iter]; unfold rel1; rw [if_pos ⟨hq, hz⟩]
      · simp (disch := first | exact dJ | fail) only [go_sem, Nat.reduceAdd, Nat.reduceMul, Nat.reduceSub, Nat.reduceLeDiff, Nat.reduceLT, Nat.reduceEqDiff, h2, h5, h7, h8, he, w1, Zan, Zaf, Zai, List.getD_cons_zero, Zam, Zao, Zap, Zah, Zaj, Zae, Zad, Zag, Zeq, Zer, Zdp, hq, hed]
        refine ⟨_, _, _, _, rfl, .inl ⟨rfl, k1 - 1, by omega, i + 1, by omega, ⟨gQ he, gQ h2, gQ h5, gQ h7, gQ he⟩, (gQ h6), ?_⟩⟩
        simp only [iter]; rw [rel1, if_neg (fun h => hz h.2)]
    · have hq' : (iter (rel1 rows s) i L).getD s false = false := by simpa using hq
      simp (disch := first | exact dJ | fail) only [go_sem, Nat.reduceAdd, Nat.reduceMul, Nat.reduceSub, Nat.reduceLeDiff, Nat.reduceLT, Nat.reduceEqDiff, h2, h5, h7, h8, he, w1, Zan, Zaf, Zai, List.getD_cons_zero, Zam, Zao, Zap, Zah, Zaj, Zae, Zad, Zag, Zeq, Zer, Zdp, hq', hed]
      refine ⟨_, _, _, _, rfl, .inl ⟨rfl, k1 - 1, by omega, i + 1, by omega, ⟨gQ he, gQ h2, gQ h5, gQ h7, gQ he⟩, (gQ h6), ?_⟩⟩
      simp only [iter]; rw [rel1, if_neg (fun h => hq h.1)]
  · have hi' : i = ins := by omega
    subst hi'
    simp (disch := first | exact dJ | fail) only [go_sem, Nat.reduceAdd, Nat.reduceMul, Nat.reduceSub, Nat.reduceLeDiff, Nat.reduceLT, Nat.reduceEqDiff, h2, h5, h7, h8, he, w1, Zan, Zaf, Zai, List.getD_cons_zero, Zam, Zao, Zap, Zah, Zaj, Zae, Zad, Zag]
    exact ⟨_, _, _, _, rfl, .inr ⟨by simp, rfl, rfl, ⟨gQ he, gQ h2, gQ h5, gQ h7⟩, (gQ h6)⟩⟩
theorem L33_2 (hm : OKM ins outs rows) {n : Nat} {L : List Bool} (hL : L.length = rows.length) (hn : n = rows.length) {gx : Nat} {e : List V} {g : Nat} (h : e.length = 58 ∧ getE e 2 = .ptr 0 0 0 ∧ getE e 5 = .sl 1 gx 1 0 n (some n) ∧ getE e 7 = .int .i64 (0 : Nat)) :
    ∃ ex e' H' g', X AP (.inl (some 2) Yhn) ⟨e, [some (0, oM k k' ins outs rows), some (gx, .cells (L.flatMap fB) .fixed)], g, none⟩ = some (ex, ⟨e', H', g', none⟩) ∧
      ex = .exit 2 ∧ H' = [some (0, oM k k' ins outs rows), some (gx, .cells ((relR rows ins L 0).flatMap fB) .fixed)] ∧ (e'.length = 58 ∧ getE e' 2 = .ptr 0 0 0 ∧ getE e' 5 = .sl 1 gx 1 0 n (some n)) ∧ getE e' 6 = getE e 6 := by
  refine Zbx (fun k1 e1 H g => ∃ (s : Nat), k1 + s = rows.length ∧ (e1.length = 58 ∧ getE e1 2 = .ptr 0 0 0 ∧ getE e1 5 = .sl 1 gx 1 0 n (some n) ∧ getE e1 7 = .int .i64 s) ∧ getE e1 6 = getE e 6 ∧
    H = [some (0, oM k k' ins outs rows), some (gx, .cells ((iter (relS rows ins) s L).flatMap fB) .fixed)]) _ ?_ rows.length e _ g ⟨0, by omega, h, rfl, rfl⟩
  rintro k1 e H g ⟨s, hk, ⟨he, h2, h5, h7⟩, h6, rfl⟩
  unfold Yhn
  have hi := hm.n2
  have w1 : IntKind.i64.wrap ((s : Int) + 1) = ((s + 1 : Nat) : Int) := by rw [Zay (by omega) (by omega)]; rfl
  have hll : (iter (relS rows ins) s L).length = rows.length := by rw [Zfo _ (fun L i => Zsw L i), hL]
  by_cases hlt : s < rows.length
  · simp (disch := first | exact dJ | fail) only [go_sem, Nat.reduceAdd, Nat.reduceMul, Nat.reduceSub, Nat.reduceLeDiff, Nat.reduceLT, Nat.reduceEqDiff, h2, h5, h7, he, w1, Zan, Zaf, Zai, List.getD_cons_zero, Zam, Zao, Zap, Zah, Zaj, Zae, Zad, Zag]
    generalize hE : putE _ _ _ = E
    have hEl : E.length = 58 := by subst hE; simp (disch := first | exact dG | fail) only [Zab, Zaa, Zac, he]
    have p2 : getE E 2 = .ptr 0 0 0 := by subst hE; exact gQ h2
    have p5 : getE E 5 = .sl 1 gx 1 0 n (some n) := by subst hE; exact gQ h5
    have p7 : getE E 7 = .int .i64 s := by subst hE; exact gQ h7
    have p8 : getE E 8 = .int .i64 (0 : Nat) := by subst hE; exact gZ he
    have p6 : getE E 6 = getE e 6 := by subst hE; simp (disch := first | exact dG | fail) only [Zab, Zaa, Zac, he]
    obtain ⟨ex, e1, H1, g1, hx, rfl, rfl, ⟨he1, h21, h51, h71⟩, h61⟩ := L33_3 (k := k) (k' := k') (g := g) hm hlt hll hn ⟨hEl, p2, p5, p7, p8⟩
    rw [hx]
    simp (disch := first | exact dJ | fail) only [go_sem, Nat.reduceAdd, Nat.reduceMul, Nat.reduceSub, Nat.reduceLeDiff, Nat.reduceLT, Nat.reduceEqDiff, h21, h51, h71, he1, w1]
    exact ⟨_, _, _, _, rfl, .inl ⟨rfl, k1 - 1, by omega, s + 1, by omega, ⟨gQ he1, gQ h21, gQ h51, gQ he1⟩, by simp (disch := first | exact dG | fail) only [Zab, Zaa, Zac, h61, p6, h6], rfl⟩⟩
  · have hi' : s = rows.length := by omega
    subst hi'
    simp (disch := first | exact dJ | fail) only [go_sem, Nat.reduceAdd, Nat.reduceMul, Nat.reduceSub, Nat.reduceLeDiff, Nat.reduceLT, Nat.reduceEqDiff, h2, h5, h7, he, w1, Zan, Zaf, Zai, List.getD_cons_zero, Zam, Zao, Zap, Zah, Zaj, Zae, Zad, Zag]
    exact ⟨_, _, _, _, rfl, .inr ⟨by simp, rfl, rfl, ⟨gQ he, gQ h2, gQ h5⟩, (gQ h6)⟩⟩
theorem L33_1 (hm : OKM ins outs rows) {n : Nat} {L : List Bool} (hL : L.length = rows.length) (hn : n = rows.length) {gx : Nat} {e : List V} {g : Nat} (h : e.length = 58 ∧ getE e 2 = .ptr 0 0 0 ∧ getE e 5 = .sl 1 gx 1 0 n (some n) ∧ getE e 6 = .int .i64 (0 : Nat)) :
    ∃ ex e' H' g', X AP (.inl (some 2) Yfo) ⟨e, [some (0, oM k k' ins outs rows), some (gx, .cells (L.flatMap fB) .fixed)], g, none⟩ = some (ex, ⟨e', H', g', none⟩) ∧
      ex = .exit 0 ∧ H' = [some (0, oM k k' ins outs rows), some (gx, .cells ((iter (relR rows ins) rows.length L).flatMap fB) .fixed)] ∧ (e'.length = 58 ∧ getE e' 5 = .sl 1 gx 1 0 n (some n)) := by
  refine Zbx (fun k1 e1 H g => ∃ (s : Nat), k1 + s = rows.length ∧ (e1.length = 58 ∧ getE e1 2 = .ptr 0 0 0 ∧ getE e1 5 = .sl 1 gx 1 0 n (some n) ∧ getE e1 6 = .int .i64 s) ∧
    H = [some (0, oM k k' ins outs rows), some (gx, .cells ((iter (relR rows ins) s L).flatMap fB) .fixed)]) _ ?_ rows.length e _ g ⟨0, by omega, h, rfl⟩
  rintro k1 e H g ⟨s, hk, ⟨he, h2, h5, h6⟩, rfl⟩
  unfold Yfo
  have hi := hm.n2
  have w1 : IntKind.i64.wrap ((s : Int) + 1) = ((s + 1 : Nat) : Int) := by rw [Zay (by omega) (by omega)]; rfl
  have hll : (iter (relR rows ins) s L).length = rows.length := by rw [Zfo _ (fun L i => Znh L i), hL]
  by_cases hlt : s < rows.length
  · simp (disch := first | exact dJ | fail) only [go_sem, Nat.reduceAdd, Nat.reduceMul, Nat.reduceSub, Nat.reduceLeDiff, Nat.reduceLT, Nat.reduceEqDiff, h2, h5, h6, he, w1, Zan, Zaf, Zai, List.getD_cons_zero, Zam, Zao, Zap, Zah, Zaj, Zae, Zad, Zag]
    generalize hE : putE _ _ _ = E
    have hEl : E.length = 58 := by subst hE; simp (disch := first | exact dG | fail) only [Zab, Zaa, Zac, he]
    have p2 : getE E 2 = .ptr 0 0 0 := by subst hE; exact gQ h2
    have p5 : getE E 5 = .sl 1 gx 1 0 n (some n) := by subst hE; exact gQ h5
    have p6 : getE E 6 = .int .i64 s := by subst hE; exact gQ h6
    have p7 : getE E 7 = .int .i64 (0 : Nat) := by subst hE; exact gZ he
    obtain ⟨ex, e1, H1, g1, hx, rfl, rfl, ⟨he1, h21, h51⟩, h61⟩ := L33_2 (k := k) (k' := k') (g := g) hm hll hn ⟨hEl, p2, p5, p7⟩
    rw [hx]
    rw [p6] at h61
    simp (disch := first | exact dJ | fail) only [go_sem, Nat.reduceAdd, Nat.reduceMul, Nat.reduceSub, Nat.reduceLeDiff, Nat.reduceLT, Nat.reduceEqDiff, h21, h51, h61, he1, w1]
    exact ⟨_, _, _, _, rfl, .inl ⟨rfl, k1 - 1, by omega, s + 1, by omega, ⟨gQ he1, gQ h21, gQ h51, gQ he1⟩, rfl⟩⟩
  · have hi' : s = rows.length := by omega
    subst hi'
    simp (disch := first | exact dJ | fail) only [go_sem, Nat.reduceAdd, Nat.reduceMul, Nat.reduceSub, Nat.reduceLeDiff, Nat.reduceLT, Nat.reduceEqDiff, h2, h5, h6, he, w1, Zan, Zaf, Zai, List.getD_cons_zero, Zam, Zao, Zap, Zah, Zaj, Zae, Zad, Zag]
    exact ⟨_, _, _, _, rfl, .inr ⟨by simp, rfl, rfl, ⟨gQ he, gQ h5⟩⟩⟩
theorem replB (n : Nat) : (List.replicate n [V.bool false]).flatten = (List.replicate n false).flatMap fB := Zhj (f := fB) n false
theorem f33 (hm : OKM ins outs rows) {f : Nat} (hf : f < rows.length) : Zaq AP (X AP) false 33 [encM k k' ins outs rows, .int .i64 f] = some (enS fB 1 (Zck rows ins f) (.c (some rows.length)), none) := by
  have hi := hm.n2
  obtain ⟨e, he, hg, hx⟩ := Zat AP33 (args := [encM k k' ins outs rows, .int .i64 f]) rfl (by decide)
  have he : e.length = 58 := he
  have h0 : getE e 0 = encM k k' ins outs rows := hg 0 (by simp only [List.length_cons]; omega)
  have h1 : getE e 1 = .int .i64 f := hg 1 (by simp only [List.length_cons]; omega)
  rw [hx]; clear hx hg; unfold c33
  have hlr : (List.replicate rows.length false).length = rows.length := by simp
  have hfl : ((List.replicate rows.length false).flatMap fB).length = rows.length := by rw [Zdp, hlr]
  simp (disch := first | exact dJ | fail) only [go_sem, Nat.reduceAdd, Nat.reduceMul, Nat.reduceSub, Nat.reduceLeDiff, Nat.reduceLT, Nat.reduceEqDiff, h0, h1, he, Zan, Zaf, Zai, List.getD_cons_zero, Zam, Zao, Zap, Zah, Zaj, Zae, Zad, Zag, replB, Zer, Zdp]
  generalize hE : putE _ _ _ = E
  have hEl : E.length = 58 := by subst hE; simp (disch := first | exact dG | fail) only [Zab, Zaa, Zac, he]
  have p2 : getE E 2 = .ptr 0 0 0 := by subst hE; exact gQ he
  have p5 : getE E 5 = .sl 1 1 1 0 rows.length (some rows.length) := by subst hE; exact gQ he
  have p6 : getE E 6 = .int .i64 (0 : Nat) := by subst hE; exact gZ he
  obtain ⟨ex, e1, H1, g1, hx, rfl, rfl, he1, h51⟩ := L33_1 (k := k) (k' := k') (g := 2) hm (L := (List.replicate rows.length false).set f true) (by simp) rfl ⟨hEl, p2, p5, p6⟩
  rw [hx]
  simp (disch := first | exact dJ | fail) only [go_sem, Nat.reduceAdd, Nat.reduceMul, Nat.reduceSub, Nat.reduceLeDiff, Nat.reduceLT, Nat.reduceEqDiff, h51, he1]
  exact Zwi (f := fB) _ _ _ _ _ .fixed rfl (Zlt (rows := rows) (ins := ins) f).symm (by simp only [Zei, Zeb, if_true]; rfl)
end
end Go.AM
