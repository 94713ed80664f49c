/- The states that are Zck, in order; access words. -/
import Derived.Test.YteooegmokbbeoaaGauHa
import Derived.Test.YteooegmokbbeoaaGauMa
set_option linter.unusedVariables false
set_option linter.unusedSimpArgs false
namespace Go.AM
/-- The states that are Zck, in order. -/
def Zbd (n : Nat) (r : List (Nat × Word)) : List Int := ((List.range n).filter fun t => (lk r t).isSome).map fun (t : Nat) => (t : Int)
section
variable {k k' : SC} {ins outs : Nat} {rows : List (List (Int × Int))}
theorem Zfi (r : List (Nat × Word)) (t : Nat) : (lk r t).isSome = true ↔ t ∈ r.map (·.1) := by
  induction r with
  | nil => simp [lk]
  | cons x r ih =>
    obtain ⟨s, w⟩ := x
    simp only [lk, List.map_cons, List.mem_cons]
    split
    · rename_i e; simp [e]
    · rename_i e; rw [ih]; simp [Ne.symm e]
theorem Zip.nodup {n : Nat} {fr : Int} {r : List (Nat × Word)} (h : Zip rows ins n fr r) : (r.map (·.1)).Nodup := by
  have key : ∀ ys zs : List (Nat × Word), r = ys ++ zs → (ys.map (·.1)).Nodup := by
    intro ys
    induction hn : ys.length generalizing ys with
    | zero => intro zs _; rw [List.eq_nil_of_length_eq_zero hn]; simp
    | succ m ih =>
      intro zs hr
      rcases List.eq_nil_or_concat ys with rfl | ⟨ys', x, rfl⟩
      · simp
      · rw [List.concat_eq_append] at hr hn ⊢
        have h1 := ih ys' (by simp at hn; omega) ([x] ++ zs) (by rw [hr]; simp)
        have h2 := (h ys' x zs (by rw [hr]; simp)).2.1
        rw [List.map_append, List.nodup_append]
        refine ⟨h1, by simp, ?_⟩
        intro a ha b hb
        simp only [List.map_cons, List.map_nil, List.mem_singleton] at hb
        subst hb
        intro e; subst e
        have := (Zfi ys' x.1).mpr ha
        rw [h2] at this; cases this
  exact key r [] (by simp)
theorem Zfu {n : Nat} {fr : Int} {r : List (Nat × Word)} (h : Zip rows ins n fr r) : (ordR r).Perm (Zbd n r) := by
  have hd := h.nodup
  have hlt : ∀ t ∈ r.map (·.1), t < n := by
    intro t ht
    obtain ⟨x, hx, rfl⟩ := List.mem_map.mp ht
    obtain ⟨ys, zs, hr⟩ := List.append_of_mem hx
    exact (h ys x zs hr).1
  have h1 : (r.map (·.1)).Perm ((List.range n).filter fun t => (lk r t).isSome) := by
    rw [List.perm_ext_iff_of_nodup hd (List.nodup_range.filter _)]
    intro t
    rw [List.mem_filter, List.mem_range, Zfi]
    constructor
    · intro h; exact ⟨hlt t h, h⟩
    · intro h; exact h.2
  have h2 := h1.map (fun (t : Nat) => (t : Int))
  rw [List.map_map] at h2
  exact h2
theorem Zob (n : Nat) (r : List (Nat × Word)) : (Zbd n r).Pairwise (· ≤ ·) := by
  unfold Zbd
  rw [List.pairwise_map]
  refine List.Pairwise.filter _ (List.Pairwise.imp ?_ List.pairwise_lt_range)
  intro a b h; simp; omega
theorem f27 (hm : OKM ins outs rows) {r : List (Nat × Word)} (hG : Zip rows ins rows.length (0 : Nat) r) (hrl : r.length ≤ 12) (hF : Fifo rows ins (0 : Nat) [[]] [] r) (hr0 : r ≠ []) : Zaq AP (X AP) false 27 [encM k k' ins outs rows] = some (.tup [ints (Zbd rows.length r) (.c (some (Zbd rows.length r).length)), .int .i64 0], none) := by
  have c18 := f18 (k := k) (k' := k') hm
  have c23 := f23 (k := k) (k' := k') (outs := outs) hm (by omega) hF
  have hol : (ordR r).length = r.length := by simp [ordR]
  have hne : ordR r ≠ [] := by intro h; rw [h] at hol; simp at hol; exact hr0 (List.eq_nil_of_length_eq_zero hol.symm)
  have hperm := Zfu hG
  obtain ⟨e, he, hg, hx⟩ := Zat AP27 (args := [encM k k' ins outs rows]) rfl (by decide)
  have he : e.length = 15 := he
  have h0 : getE e 0 = encM k k' ins outs rows := hg 0 (by simp only [List.length_cons]; omega)
  rw [hx]; clear hx hg; unfold c27
  obtain ⟨H', γ', i, gi, L, c25, q1, q2, q3, q4, q5⟩ := f25 (l := ordR r) (kl := .n) hne (by omega) (H := [some (0, oM k k' ins outs rows), none, none, none, none, none, some (6, .cells [ints (ordR r) .n] .fixed)]) (pb := 6) (gb := 6) (by rfl) 7
  have hL : L = Zbd rows.length r := List.Perm.eq_of_pairwise (fun a b _ _ h1 h2 => Int.le_antisymm h1 h2) q3 (Zob _ _) (q2.trans hperm)
  have hLn : L ≠ [] := by intro h; rw [h] at q2; exact hne (List.nil_perm.mp q2)
  have hLl : (ordR r).length = L.length := q2.length_eq.symm
  have c26 := f26 (l := L) (k := .c none) (.inr rfl) hLn
  rw [← hL]
  clear hL q2 q3 q4 hperm
  rw [hLl] at c25
  simp (disch := first | exact dJ | fail) only [go_sem, Nat.reduceAdd, Nat.reduceMul, Nat.reduceSub, Nat.reduceLeDiff, Nat.reduceLT, Nat.reduceEqDiff, h0, he, Zan, Zaf, Zai, List.getD_cons_zero, Zam, Zao, Zap, Zah, Zaj, Zae, Zad, Zag, c18, c23, f24, c25, q1, Zkm, Zrf, Zed, c26]
end
end Go.AM

set_option linter.unusedVariables false
set_option linter.unusedSimpArgs false
namespace Go.AM
section
variable {ins outs : Nat} {rows : List (List (Int × Int))} {fr : Int}
theorem Zos {r : List (Nat × Word)} (hI : FInv rows ins fr [] r) : ∀ (m s : Nat) (w : Word), w.length = m → lk r s = some w → ∀ k, k ≤ w.length → ∃ t : Nat, aft rows fr (w.take k) = t ∧ t < rows.length ∧ lk r t = some (w.take k)
  | m, s, w, hm, h, k, hk => by
    by_cases hkw : k = w.length
    · subst hkw
      have := hI.at_ s w h
      rw [List.take_of_length_le (Nat.le_refl _)]
      exact ⟨s, this.1, this.2.1, h⟩
    · obtain ⟨ys, zs, hr⟩ := Zif h
      rcases (hI.good ys (s, w) zs hr).2.2.1 with h0 | ⟨u, i, fs, e1, e2, e3, e4, e5, e6⟩
      · simp only at h0; subst h0; simp at hk hkw; omega
      · simp only at e1
        have h6 : lk r fs = some u := by rw [hr]; exact Zjl _ e6
        have hl : w.length = u.length + 1 := by rw [e1]; simp
        obtain ⟨t, q1, q2, q3⟩ := Zos hI (m - 1) fs u (by omega) h6 k (by omega)
        have : w.take k = u.take k := by rw [e1, List.take_append_of_le_length (by omega)]
        rw [this]
        exact ⟨t, q1, q2, q3⟩
  termination_by m => m
  decreasing_by omega
theorem Zhy (n : Nat) (r : List (Nat × Word)) : Zbd (n + 1) r = if (lk r n).isSome then Zbd n r ++ [(n : Int)] else Zbd n r := by
  unfold Zbd
  rw [List.range_succ, List.filter_append, List.map_append]
  by_cases h : (lk r n).isSome = true
  · simp [h]
  · simp [h]
theorem Zhd (n : Nat) (r : List (Nat × Word)) : (Zbd n r).length ≤ n := by
  unfold Zbd
  rw [List.length_map]
  have := List.length_filter_le (fun t => (lk r t).isSome) (List.range n)
  simpa using this
theorem Yct {r : List (Nat × Word)} (hI : FInv rows ins fr [] r) {s : Nat} {w : Word} (h : lk r s = some w) : Wd ins w := (hI.at_ s w h).2.2
theorem Wd.take {w : Word} (h : Wd ins w) (k : Nat) : Wd ins (w.take k) := fun x hx => h x (List.mem_of_mem_take hx)
theorem c8_of {r : List (Nat × Word)} (hI : FInv rows ins fr [] r) (hn : rows.length ≤ 64) (t : Nat) : Zaq AP (X AP) false 8 [encP (lk r t), .int .i64 0, encO (lk r t), .int .i64 0] = some (.bool true, none) := by
  cases hlk : lk r t with
  | none => exact f8 (l := []) (kl := .n) (kw := .n) (by decide) rfl
  | some w =>
    have hwl := hI.len hlk
    refine f8 (l := w) (kl := kdP w) (kw := kdW w) (by omega) ?_
    unfold kdP
    cases w with
    | nil => rfl
    | cons a t => rfl
theorem Zvy (o : Option Word) : Zak (encP o) = true := by
  have := (inferInstance : Enc fP 1).pure o
  simpa [fP, Zax, Zbi] using this
theorem Zyt (o : Option Word) : Zak (encO o) = true := by
  have := (inferInstance : Enc fO 1).pure o
  simpa [fO, Zax, Zbi] using this
theorem L78_2 (hm : OKM ins outs rows) {r : List (Nat × Word)} (hI : FInv rows ins (0 : Nat) [] r) {x0 x1 x3 x4 x5 x6 x7 x8 : Option (Nat × O)} {n : Nat} (hn : n = rows.length) {s : Nat} (hs : s < n) {w : Word} (hw : lk r s = some w) {g9 m : Nat} {e : List V} {g : Nat} (h : e.length = 139 ∧ getE e 3 = .ptr 2 2 0 ∧ getE e 4 = enS fP 1 (visL n r) (.c (some n)) ∧ getE e 5 = enS fB 1 (visB n r) (.c (some n)) ∧ getE e 7 = enS fO 1 (visL n r) (.c (some n)) ∧ getE e 8 = enS fB 1 (visB n r) (.c (some n)) ∧ getE e 9 = .sl 5 g9 1 0 m none ∧ getE e 10 = .int .i64 s ∧ getE e 11 = .int .i64 (0 : Nat)) :
    ∃ ex e' H' g', X AP (.inl (some 9) Yfp) ⟨e, [x0, x1, some (2, oM .n .n ins outs rows), x3, x4, x5, x6, x7, x8], g, none⟩ = some (ex, ⟨e', H', g', none⟩) ∧ ex = .exit 2 ∧ H' = [x0, x1, some (2, oM .n .n ins outs rows), x3, x4, x5, x6, x7, x8] ∧ e'.length = 139 ∧ getE e' 3 = .ptr 2 2 0 ∧ getE e' 4 = enS fP 1 (visL n r) (.c (some n)) ∧ getE e' 5 = enS fB 1 (visB n r) (.c (some n)) ∧ getE e' 7 = enS fO 1 (visL n r) (.c (some n)) ∧ getE e' 8 = enS fB 1 (visB n r) (.c (some n)) ∧ getE e' 9 = .sl 5 g9 1 0 m none ∧ getE e' 10 = .int .i64 s := by
  have hn2 := hm.n2
  have hwl := hI.len hw
  have hww := Yct hI hw
  refine Zbx (fun k1 e H g => ∃ (k : Nat) (K : Heap), k1 + k = w.length ∧ (e.length = 139 ∧ getE e 3 = .ptr 2 2 0 ∧ getE e 4 = enS fP 1 (visL n r) (.c (some n)) ∧ getE e 5 = enS fB 1 (visB n r) (.c (some n)) ∧ getE e 7 = enS fO 1 (visL n r) (.c (some n)) ∧ getE e 8 = enS fB 1 (visB n r) (.c (some n)) ∧ getE e 9 = .sl 5 g9 1 0 m none ∧ getE e 10 = .int .i64 s ∧ getE e 11 = .int .i64 k) ∧ H = x0 :: x1 :: some (2, oM .n .n ins outs rows) :: x3 :: x4 :: x5 :: x6 :: x7 :: x8 :: K) _ ?_ w.length e _ g ⟨0, [], by omega, h, rfl⟩
  rintro k1 e H g ⟨k, K, hk, ⟨he, h3, h4, h5, h7, h8, h9, h10, h11⟩, rfl⟩
  unfold Yfp
  have w1 : IntKind.i64.wrap ((k : Int) + 1) = ((k + 1 : Nat) : Int) := by rw [Zay (by omega) (by omega)]; rfl
  have l1 := Zcq n r
  have l2 := Zcr n r
  have g1 := Zdt (vis := r) hs
  rw [hw] at g1
  have hle := Zso (own := []) (id := 0) (g := 0) (H := []) w
  by_cases hlt : k < w.length
  · obtain ⟨t, q1, q2, q3⟩ := Zos hI _ s w rfl hw k (by omega)
    have g3 := Zdt (vis := r) (n := n) (t := t) (by omega)
    rw [q3] at g3
    have hsl := Zwl (f := fI) w (kdP w) .i64 (k : Int) (by omega) (by omega) (by
      intro o ho c hc
      unfold kdP at ho
      cases w with
      | nil => simp at hlt
      | cons a b => cases ho; cases hc; exact Nat.le_refl _)
    rw [Int.toNat_natCast] at hsl
    have c21 := f21 (k := .n) (k' := .n) (outs := outs) hm (w.take k) (SC.dr w.isEmpty 0 (kdP w)) (0 : Nat) ⟨by omega, by have := hm.n1; omega⟩ (hww.take k)
    rw [q1] at c21
    rw [Int.natCast_zero] at c21
    have c15 := f15 (w.take k) (w.take k) (kdP (w.take k)) (SC.dr w.isEmpty 0 (kdP w)) (by rw [List.length_take]; omega)
    have e1 : encP (some w) = ints w (kdP w) := rfl
    have e2 : encP (some (w.take k)) = ints (w.take k) (kdP (w.take k)) := rfl
    have ht : ¬ ((t : Int) < 0) := by omega
    have htn : t < n := by omega
    generalize hu : w.take k = u at *
    simp (disch := first | exact dJ | fail) only [go_sem, Nat.reduceAdd, Nat.reduceMul, Nat.reduceSub, Nat.reduceLeDiff, Nat.reduceLT, Nat.reduceEqDiff, h3, h4, h5, h7, h8, h9, h10, h11, he, w1, Zan, Zaf, Zai, List.getD_cons_zero, Zam, Zao, Zap, Zah, Zaj, Zae, Zad, Zag, Znz, l1, l2, g1, g3, e1, e2, hsl, c21, c15]
    exact ⟨_, _, _, _, rfl, .inl ⟨rfl, k1 - 1, by omega, k + 1, _, by omega, ⟨gQ he, gQ h3, gQ h4, gQ h5, gQ h7, gQ h8, gQ h9, gQ h10, gQ he⟩, rfl⟩⟩
  · have e1 : encP (some w) = ints w (kdP w) := rfl
    simp (disch := first | exact dJ | fail) only [go_sem, Nat.reduceAdd, Nat.reduceMul, Nat.reduceSub, Nat.reduceLeDiff, Nat.reduceLT, Nat.reduceEqDiff, h3, h4, h5, h7, h8, h9, h10, h11, he, w1, Zan, Zaf, Zai, List.getD_cons_zero, Zam, Zao, Zap, Zah, Zaj, Zae, Zad, Zag, Znz, l1, l2, g1, e1]
    exact ⟨_, _, _, _, rfl, .inr ⟨by simp, rfl, rfl, gQ he, gQ h3, gQ h4, gQ h5, gQ h7, gQ h8, gQ h9, gQ h10⟩⟩
theorem L78_1 (hm : OKM ins outs rows) {r : List (Nat × Word)} (hI : FInv rows ins (0 : Nat) [] r) {x0 x1 x3 x4 : Option (Nat × O)} {n : Nat} (hn : n = rows.length) {g9 : Nat} {e : List V} {g : Nat} (h : e.length = 139 ∧ getE e 3 = .ptr 2 2 0 ∧ getE e 4 = enS fP 1 (visL n r) (.c (some n)) ∧ getE e 5 = enS fB 1 (visB n r) (.c (some n)) ∧ getE e 7 = enS fO 1 (visL n r) (.c (some n)) ∧ getE e 8 = enS fB 1 (visB n r) (.c (some n)) ∧ getE e 9 = .sl 5 g9 1 0 (0 : Nat) none ∧ getE e 10 = .int .i64 (0 : Nat)) :
    ∃ ex e' H' g', X AP (.inl (some 6) Ydg) ⟨e, [x0, x1, some (2, oM .n .n ins outs rows), x3, x4, some (g9, .cells [] .nilo)], g, none⟩ = some (ex, ⟨e', H', g', none⟩) ∧ ex = .exit 0 ∧ ∃ g9, H' = [x0, x1, some (2, oM .n .n ins outs rows), x3, x4, some (g9, grO fI (Zbd n r))] ∧ e'.length = 139 ∧ getE e' 3 = .ptr 2 2 0 ∧ getE e' 4 = enS fP 1 (visL n r) (.c (some n)) ∧ getE e' 5 = enS fB 1 (visB n r) (.c (some n)) ∧ getE e' 7 = enS fO 1 (visL n r) (.c (some n)) ∧ getE e' 8 = enS fB 1 (visB n r) (.c (some n)) ∧ getE e' 9 = .sl 5 g9 1 0 (Zbd n r).length none ∧ getE e' 10 = .int .i64 n := by
  have hn2 := hm.n2
  refine Zbx (fun k1 e H g => ∃ (s g9 : Nat) (K : Heap), k1 + s = n ∧ (e.length = 139 ∧ getE e 3 = .ptr 2 2 0 ∧ getE e 4 = enS fP 1 (visL n r) (.c (some n)) ∧ getE e 5 = enS fB 1 (visB n r) (.c (some n)) ∧ getE e 7 = enS fO 1 (visL n r) (.c (some n)) ∧ getE e 8 = enS fB 1 (visB n r) (.c (some n)) ∧ getE e 9 = .sl 5 g9 1 0 (Zbd s r).length none ∧ getE e 10 = .int .i64 s) ∧ H = x0 :: x1 :: some (2, oM .n .n ins outs rows) :: x3 :: x4 :: some (g9, grO fI (Zbd s r)) :: K) _ ?_ n e _ g ⟨0, g9, [], by omega, h, rfl⟩
  rintro k1 e H g ⟨s, g9, K, hk, ⟨he, h3, h4, h5, h7, h8, h9, h10⟩, rfl⟩
  unfold Ydg
  have w1 : IntKind.i64.wrap ((s : Int) + 1) = ((s + 1 : Nat) : Int) := by rw [Zay (by omega) (by omega)]; rfl
  have l1 := Zcq n r
  have l2 := Zcr n r
  by_cases hlt : s < n
  · have g1 := Zdt (vis := r) hlt
    have g2 := Zes (vis := r) hlt
    have c8 := c8_of hI hn2 s
    have hp1 := Zvy (lk r s)
    have hp2 := Zyt (lk r s)
    have hrs := Zhy s r
    have hrl := Zhd s r
    cases hlk : lk r s with
    | none =>
      rw [hlk] at g1 g2 c8 hp1 hp2 hrs
      simp only [Option.isSome_none, Bool.false_eq_true, if_false] at g2 hrs
      rw [← hrs] at h9 ⊢
      simp (disch := first | exact dJ | fail) only [go_sem, Nat.reduceAdd, Nat.reduceMul, Nat.reduceSub, Nat.reduceLeDiff, Nat.reduceLT, Nat.reduceEqDiff, h3, h4, h5, h7, h8, h9, h10, he, w1, Zan, Zaf, Zai, List.getD_cons_zero, Zam, Zao, Zap, Zah, Zaj, Zae, Zad, Zag, Znz, Zeq, Zqq, l1, l2, g1, g2, c8, hp1, hp2]
      exact ⟨_, _, _, _, rfl, .inl ⟨rfl, k1 - 1, by omega, s + 1, g9, _, by omega, ⟨gQ he, gQ h3, gQ h4, gQ h5, gQ h7, gQ h8, gQ h9, gQ he⟩, rfl⟩⟩
    | some w =>
      rw [hlk] at g1 g2 c8 hp1 hp2 hrs
      simp only [Option.isSome_some, if_true] at g2 hrs
      generalize hR : Zbd s r = R at *
      simp (disch := first | exact dJ | fail) only [go_sem, Nat.reduceAdd, Nat.reduceMul, Nat.reduceSub, Nat.reduceLeDiff, Nat.reduceLT, Nat.reduceEqDiff, h3, h4, h5, h7, h8, h9, h10, he, w1, Zan, Zaf, Zai, List.getD_cons_zero, Zam, Zao, Zap, Zah, Zaj, Zae, Zad, Zag, Znz, Zeq, Zqq, l1, l2, g1, g2, c8, hp1, hp2]
      generalize hE : putE _ _ _ = E
      have hEl : E.length = 139 := by subst hE; simp (disch := first | exact dG | fail) only [Zab, Zaa, Zac, he]
      have p3 : getE E 3 = .ptr 2 2 0 := by subst hE; exact gQ h3
      have p4 : getE E 4 = enS fP 1 (visL n r) (.c (some n)) := by subst hE; exact gQ h4
      have p5 : getE E 5 = enS fB 1 (visB n r) (.c (some n)) := by subst hE; exact gQ h5
      have p7 : getE E 7 = enS fO 1 (visL n r) (.c (some n)) := by subst hE; exact gQ h7
      have p8 : getE E 8 = enS fB 1 (visB n r) (.c (some n)) := by subst hE; exact gQ h8
      have p9 : getE E 9 = .sl 5 (g + 1 + 1) 1 0 (R.length + 1) none := by subst hE; exact gQ he
      have p10 : getE E 10 = .int .i64 s := by subst hE; exact gQ h10
      have p11 : getE E 11 = .int .i64 (0 : Nat) := by subst hE; exact gZ he
      obtain ⟨ex, e1, H1, g1', hx, rfl, rfl, he1, q3, q4, q5, q7, q8, q9, q10⟩ := L78_2 hm hI (x0 := x0) (x1 := x1) (x3 := x3) (x4 := x4) (x5 := some (g + 1 + 1, grO fI (R ++ [(s : Int)]))) (x6 := none) (x7 := some (g + 1, O.cells [V.int IntKind.i64 ↑s] Kd.fixed)) (x8 := none) hn hlt hlk (g := g + 3) ⟨hEl, p3, p4, p5, p7, p8, p9, p10, p11⟩
      rw [hx]
      simp (disch := first | exact dJ | fail) only [go_sem, Nat.reduceAdd, Nat.reduceMul, Nat.reduceSub, Nat.reduceLeDiff, Nat.reduceLT, Nat.reduceEqDiff, q3, q4, q5, q7, q8, q9, q10, he1, w1]
      refine ⟨_, _, _, _, rfl, .inl ⟨rfl, k1 - 1, by omega, s + 1, g + 1 + 1, _, by omega, ?_, by rw [hrs] <;> rfl⟩⟩
      rw [hrs, List.length_append]
      exact ⟨gQ he1, gQ q3, gQ q4, gQ q5, gQ q7, gQ q8, gQ q9, gQ he1⟩
  · have hs : s = n := by omega
    subst hs
    simp (disch := first | exact dJ | fail) only [go_sem, Nat.reduceAdd, Nat.reduceMul, Nat.reduceSub, Nat.reduceLeDiff, Nat.reduceLT, Nat.reduceEqDiff, h3, h4, h5, h7, h8, h9, h10, he, w1, Zan, Zaf, Zai, List.getD_cons_zero, Zam, Zao, Zap, Zah, Zaj, Zae, Zad, Zag, l1]
    exact ⟨_, _, _, _, rfl, .inr ⟨by simp, rfl, g9, rfl, gQ he, gQ h3, gQ h4, gQ h5, gQ h7, gQ h8, gQ h9, gQ h10⟩⟩
end
theorem f78 (S I O : Nat) (p : Bool) (es : List Nat) (ke : SC) (hes : ∀ i, es.getD i 0 < 65536) : Zaq AP (X AP) false 78 [.agg [.int .u8 S, .int .u8 I, .int .u8 O, .bool p, enS (fN .u16) 1 es ke]] = some (.bool true, none) := by
  have hm := Zmg S I O p es
  have c2 := f2 S I O p es ke hes
  have hl := Zdl (1 + S % 6) (1 + I % 3) (1 + O % 3) p es (1 + S % 6)
  generalize Zfb (1 + S % 6) (1 + I % 3) (1 + O % 3) p es (1 + S % 6) = rows at *
  have hn6 : 1 + S % 6 ≤ 6 := by omega
  generalize 1 + I % 3 = ins at *
  generalize 1 + O % 3 = outs at *
  generalize 1 + S % 6 = n at *
  subst hl
  have hn1 := hm.n1
  obtain ⟨r, hr, hI⟩ := Fifo.run (ins := ins) hm (fr := (0 : Nat)) ⟨by omega, by omega⟩
  have hrl : r.length ≤ 6 := by have := hI.num; omega
  have hr0 : r ≠ [] := by
    intro h; subst h
    cases hr with
    | skip h hr => rcases h with h | h
                   · simp [aft] at h
                   · exact h rfl
    | visit h hr => obtain ⟨zs, hz⟩ := Fifo.isPre hr; simp at hz
  have c3 := f3 (k := .n) (k' := .n) (outs := outs) hm hI.good (by omega) hr
  have c4 := f4 (k := .n) (k' := .n) (outs := outs) hm hr
  have c27 := f27 (k := .n) (k' := .n) (outs := outs) hm hI.good (by omega) hr hr0
  have c30 := f30
  have l1 := Zcq rows.length r
  have l2 := Zcr rows.length r
  have hrc := Zhd rows.length r
  have hc1 : capV (enS fP 1 (visL rows.length r) (.c (some rows.length))) = some (.int .i64 rows.length) := rfl
  have hc2 : capV (enS fB 1 (visB rows.length r) (.c (some rows.length))) = some (.int .i64 rows.length) := rfl
  have c8 := f8 (l := Zbd rows.length r) (kl := .c (some (Zbd rows.length r).length)) (kw := .c none) (n := 0) (by omega) rfl
  have hrne : Zbd rows.length r ≠ [] := by
    intro h
    have := Zfu hI.good
    rw [h] at this
    have := this.length_eq
    simp [ordR] at this
    exact hr0 this
  obtain ⟨e, he, hg, hx⟩ := Zat AP78 (args := [.agg [.int .u8 S, .int .u8 I, .int .u8 O, .bool p, enS (fN .u16) 1 es ke]]) rfl (by decide)
  have he : e.length = 139 := he
  have h0 : getE e 0 = .agg [.int .u8 S, .int .u8 I, .int .u8 O, .bool p, enS (fN .u16) 1 es ke] := hg 0 (by simp only [List.length_cons]; omega)
  rw [hx]; clear hx hg; unfold c78
  simp (disch := first | exact dJ | fail) only [go_sem, Nat.reduceAdd, Nat.reduceMul, Nat.reduceSub, Nat.reduceLeDiff, Nat.reduceLT, Nat.reduceEqDiff, h0, he, Zan, Zaf, Zai, List.getD_cons_zero, Zam, Zao, Zap, Zah, Zaj, Zae, Zad, Zag, c2, c3, c4, l1, l2, hc1, hc2]
  generalize hE : putE _ _ _ = E
  have hEl : E.length = 139 := by subst hE; simp (disch := first | exact dG | fail) only [Zab, Zaa, Zac, he]
  have p3 : getE E 3 = .ptr 2 2 0 := by subst hE; exact gQ he
  have p4 : getE E 4 = enS fP 1 (visL rows.length r) (.c (some rows.length)) := by subst hE; exact gQ he
  have p5 : getE E 5 = enS fB 1 (visB rows.length r) (.c (some rows.length)) := by subst hE; exact gQ he
  have p7 : getE E 7 = enS fO 1 (visL rows.length r) (.c (some rows.length)) := by subst hE; exact gQ he
  have p8 : getE E 8 = enS fB 1 (visB rows.length r) (.c (some rows.length)) := by subst hE; exact gQ he
  have p9 : getE E 9 = .sl 5 5 1 0 (0 : Nat) none := by subst hE; exact gQ he
  have p10 : getE E 10 = .int .i64 (0 : Nat) := by subst hE; exact gZ he
  obtain ⟨ex, e1, H1, g1', hx, rfl, g9, rfl, he1, q3, q4, q5, q7, q8, q9, q10⟩ := L78_1 hm hI (x0 := some (0, AM.O.cells [V.int IntKind.u8 ↑S, V.int IntKind.u8 ↑I, V.int IntKind.u8 ↑O, V.bool p, enS (fN IntKind.u16) 1 es ke] Kd.fixed)) (x1 := none) (x3 := none) (x4 := none) rfl (g9 := 5) (g := 6) ⟨hEl, p3, p4, p5, p7, p8, p9, p10⟩
  rw [hx]
  have hgr : grO fI (Zbd rows.length r) = .cells ((Zbd rows.length r).flatMap fI) .loose := by
    generalize Zbd rows.length r = R at *
    cases R with
    | nil => exact absurd rfl hrne
    | cons a t => rfl
  have c8' : Zaq AP (X AP) false 8 [ints (Zbd rows.length r) (.c (some (Zbd rows.length r).length)), .int .i64 0, .arr ((Zbd rows.length r).flatMap fI) 1 (Zbd rows.length r).length none, .int .i64 0] = some (.bool true, none) := c8
  have hfl : (Zbd rows.length r).length * 1 = ((Zbd rows.length r).flatMap fI).length := by rw [Zbn (f := fI)]
  have hfp := Zdd (f := fI) (Zbd rows.length r)
  have iso8 : ∀ (own : List (Nat × Nat)) (id g : Nat) (H : Heap) (x : Opd) (ys : List Opd), getH H 5 g9 = some (.cells ((Zbd rows.length r).flatMap fI) .loose) → opR AP own id g (.call .iso x ys) [.fn 8 [] [], ints (Zbd rows.length r) (.c (some (Zbd rows.length r).length)), .int .i64 0, .sl 5 g9 1 0 (Zbd rows.length r).length none, .int .i64 0] H = some (.bool true, H, [5], []) := fun own id g H x ys hg => by
    rw [Zor x ys 8 _ [ints (Zbd rows.length r) (.c (some (Zbd rows.length r).length)), .int .i64 0, .arr ((Zbd rows.length r).flatMap fI) 1 (Zbd rows.length r).length none, .int .i64 0] [5] (by
      rw [Zca, Zca, Zca, Zca, Zde, Zdx (Zcf ..), Zdx (Zbe ..), Zfr, hg, Zdg rfl hfl hfp]; rfl) (by simp [Zax, Zcf, Zft, Zbe])]
    rw [c8']; exact Zdf ..
  rw [hgr]
  clear hgr hrne c8
  simp (disch := first | exact dJ | fail) only [go_sem, Nat.reduceAdd, Nat.reduceMul, Nat.reduceSub, Nat.reduceLeDiff, Nat.reduceLT, Nat.reduceEqDiff, he1, q3, q9, c27, iso8, c30, Zan, Zaf, Zai, List.getD_cons_zero, Zam, Zao, Zap, Zah, Zaj, Zae, Zad, Zag]
end Go.AM
