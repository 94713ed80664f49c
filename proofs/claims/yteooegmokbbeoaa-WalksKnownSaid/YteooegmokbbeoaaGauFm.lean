/- Access, Path, Distances. -/
import Derived.Test.YteooegmokbbeoaaGauFj
import Derived.KernelRfl
import Derived.Test.YteooegmokbbeoaaGauBh
set_option linter.unusedVariables false
set_option linter.unusedSimpArgs false
namespace Go.AM
section
variable {k k' : SC} {ins outs : Nat} {rows : List (List (Int × Int))}
theorem f48 {s : Int} (hs : 0 ≤ s ∧ s < rows.length) (H : Heap) (γ : Nat) : ∃ K γ', Zdo AP (X AP) 48 [.int .i64 s, .pf [.int .i64 ins, .int .i64 outs, enS (fR k') 1 rows k] 0] H γ = some (.bool false, H ++ K, γ') := by
  obtain ⟨e, he, hg, hx⟩ := Zcu γ H AP48 (args := [.int .i64 s, .pf [.int .i64 ins, .int .i64 outs, enS (fR k') 1 rows k] 0]) rfl (by decide)
  have he : e.length = 13 := he
  have h0 : getE e 0 = .int .i64 s := hg 0 (by simp only [List.length_cons]; omega)
  have h1 : getE e 1 = .pf [.int .i64 ins, .int .i64 outs, enS (fR k') 1 rows k] 0 := hg 1 (by simp only [List.length_cons]; omega)
  rw [hx]; clear hx hg; unfold c48
  simp (disch := first | exact dJ | fail) only [go_sem, Nat.reduceAdd, Nat.reduceMul, Nat.reduceSub, Nat.reduceLeDiff, Nat.reduceLT, Nat.reduceEqDiff, h0, h1, he, Zan, Zaf, Zai, List.getD_cons_zero, Zam, Zao, Zap, Zah, Zaj, Zae, Zad, Zag]
  exact ⟨[], _, by rw [List.append_nil]⟩
theorem f62 {l : List Int} (hr : ∀ x ∈ l, 0 ≤ x ∧ x < rows.length) (hl : l.length ≤ 1000000) {kr : SC} : Zaq AP (X AP) false 62 [ints l kr, .fn 48 [] [.pf [.int .i64 ins, .int .i64 outs, enS (fR k') 1 rows k] 0]] = some (.int .i64 (-1), none) := by
  obtain ⟨e, he, hg, hx⟩ := Zat AP62 (args := [ints l kr, .fn 48 [] [.pf [.int .i64 ins, .int .i64 outs, enS (fR k') 1 rows k] 0]]) rfl (by decide)
  have he : e.length = 19 := he
  have h0 : getE e 0 = ints l kr := hg 0 (by simp only [List.length_cons]; omega)
  have h1 : getE e 1 = .fn 48 [] [.pf [.int .i64 ins, .int .i64 outs, enS (fR k') 1 rows k] 0] := hg 1 (by simp only [List.length_cons]; omega)
  rw [hx]; clear hx hg; unfold c62
  simp (disch := first | exact dJ | fail) only [go_sem, Nat.reduceAdd, Nat.reduceMul, Nat.reduceSub, Nat.reduceLeDiff, Nat.reduceLT, Nat.reduceEqDiff, h0, h1, he, Zan, Zaf, Zai, List.getD_cons_zero, Zam, Zao, Zap, Zah, Zaj, Zae, Zad, Zag]
  generalize hE : putE _ _ _ = E
  have hEl : E.length = 19 := by subst hE; simp (disch := first | exact dG | fail) only [Zab, Zaa, Zac, he]
  have p0 : getE E 0 = ints l kr := by subst hE; exact gQ h0
  have p1 : getE E 1 = .fn 48 [] [.pf [.int .i64 ins, .int .i64 outs, enS (fR k') 1 rows k] 0] := by subst hE; exact gQ h1
  have p7 : getE E 7 = .int .i64 l.length := by subst hE; exact gQ he
  have p8 : getE E 8 = .int .i64 (0 : Nat) := by subst hE; exact gZ he
  have key : ∃ ex e' H' g', X AP (.inl none Yek) ⟨E, [], 0, none⟩ = some (ex, ⟨e', H', g', none⟩) ∧ ex = .exit 0 ∧ e'.length = 19 := by
    refine Zbx (fun k1 e H g => ∃ i : Nat, k1 + i = l.length ∧ (e.length = 19 ∧ getE e 0 = ints l kr ∧ getE e 1 = .fn 48 [] [.pf [.int .i64 ins, .int .i64 outs, enS (fR k') 1 rows k] 0] ∧ getE e 7 = .int .i64 l.length ∧ getE e 8 = .int .i64 i)) _ ?_ l.length E _ 0 ⟨0, by omega, hEl, p0, p1, p7, p8⟩
    rintro k1 e H g ⟨i, hk, he, h0, h1, h7, h8⟩
    unfold Yek
    have w1 : IntKind.i64.wrap ((i : Int) + 1) = ((i + 1 : Nat) : Int) := by rw [Zay (by omega) (by omega)]; rfl
    by_cases hlt : i < l.length
    · have hfit := hr (l.getD i 0) (Zci 0 hlt)
      obtain ⟨K, γ', c48⟩ := f48 (k := k) (k' := k') (ins := ins) (outs := outs) hfit (H ++ [none]) (g + 1)
      simp (disch := first | exact dJ | fail) only [go_sem, Nat.reduceAdd, Nat.reduceMul, Nat.reduceSub, Nat.reduceLeDiff, Nat.reduceLT, Nat.reduceEqDiff, h0, h1, h7, h8, he, w1, Zan, Zaf, Zai, List.getD_cons_zero, Zam, Zao, Zap, Zah, Zaj, Zae, Zad, Zag, c48]
      exact ⟨_, _, _, _, rfl, .inl ⟨rfl, k1 - 1, by omega, i + 1, by omega, gQ he, gQ h0, gQ h1, gQ h7, gQ he⟩⟩
    · simp (disch := first | exact dJ | fail) only [go_sem, Nat.reduceAdd, Nat.reduceMul, Nat.reduceSub, Nat.reduceLeDiff, Nat.reduceLT, Nat.reduceEqDiff, h0, h1, h7, h8, he, w1, Zan, Zaf, Zai, List.getD_cons_zero, Zam, Zao, Zap, Zah, Zaj, Zae, Zad, Zag]
      exact ⟨_, _, _, _, rfl, .inr ⟨by simp, rfl, (gQ he)⟩⟩
  obtain ⟨ex, e1, H1, g1, hx, rfl, he1⟩ := key
  rw [hx]
  simp (disch := first | exact dJ | fail) only [go_sem, Nat.reduceAdd, Nat.reduceMul, Nat.reduceSub, Nat.reduceLeDiff, Nat.reduceLT, Nat.reduceEqDiff, he1]
theorem f49 {l : List Int} (hr : ∀ x ∈ l, 0 ≤ x ∧ x < rows.length) (hl : l.length ≤ 1000000) {kr : SC} : Zaq AP (X AP) false 49 [ints l kr, .fn 48 [] [.pf [.int .i64 ins, .int .i64 outs, enS (fR k') 1 rows k] 0]] = some (.bool false, none) := by
  have c62 := f62 (k := k) (k' := k') (ins := ins) (outs := outs) hr hl (kr := kr)
  obtain ⟨e, he, hg, hx⟩ := Zat AP49 (args := [ints l kr, .fn 48 [] [.pf [.int .i64 ins, .int .i64 outs, enS (fR k') 1 rows k] 0]]) rfl (by decide)
  have he : e.length = 9 := he
  have h0 : getE e 0 = ints l kr := hg 0 (by simp only [List.length_cons]; omega)
  have h1 : getE e 1 = .fn 48 [] [.pf [.int .i64 ins, .int .i64 outs, enS (fR k') 1 rows k] 0] := hg 1 (by simp only [List.length_cons]; omega)
  rw [hx]; clear hx hg; unfold c49
  simp (disch := first | exact dJ | fail) only [go_sem, Nat.reduceAdd, Nat.reduceMul, Nat.reduceSub, Nat.reduceLeDiff, Nat.reduceLT, Nat.reduceEqDiff, h0, h1, he, Zan, Zaf, Zai, List.getD_cons_zero, Zam, Zao, Zap, Zah, Zaj, Zae, Zad, Zag, c62, Zed]
theorem f31 (hm : OKM ins outs rows) {l : List Int} (hr : ∀ x ∈ l, 0 ≤ x ∧ x < rows.length) (hl : l.length ≤ 1000000) {c : Option Nat} : Zaq AP (X AP) false 31 [encM k k' ins outs rows, .arr (l.flatMap fI) 1 l.length c] = some (.int .i64 0, none) := by
  have c49 := f49 (k := k) (k' := k') (ins := ins) (outs := outs) hr hl (kr := .c c)
  have c18 := f18 (k := k) (k' := k') hm
  show Zaq AP (X AP) false 31 [encM k k' ins outs rows, ints l (.c c)] = _
  obtain ⟨e, he, hg, hx⟩ := Zat AP31 (args := [encM k k' ins outs rows, ints l (.c c)]) rfl (by decide)
  have he : e.length = 14 := he
  have h0 : getE e 0 = encM k k' ins outs rows := hg 0 (by simp only [List.length_cons]; omega)
  have h1 : getE e 1 = ints l (.c c) := hg 1 (by simp only [List.length_cons]; omega)
  rw [hx]; clear hx hg; unfold c31
  simp (disch := first | exact dJ | fail) only [go_sem, Nat.reduceAdd, Nat.reduceMul, Nat.reduceSub, Nat.reduceLeDiff, Nat.reduceLT, Nat.reduceEqDiff, h0, h1, he, Zan, Zaf, Zai, List.getD_cons_zero, Zam, Zao, Zap, Zah, Zaj, Zae, Zad, Zag, c18, c49, isoM k k' ins outs rows, Zdf]
theorem f3 (hm : OKM ins outs rows) {r : List (Nat × Word)} (hG : Zip rows ins rows.length (0 : Nat) r) (hrl : r.length ≤ 64) (hF : Fifo rows ins (0 : Nat) [[]] [] r) : Zaq AP (X AP) false 3 [encM k k' ins outs rows] = some (.tup [enS fP 1 (visL rows.length r) (.c (some rows.length)), enS fB 1 (visB rows.length r) (.c (some rows.length)), .int .i64 0], none) := by
  have c18 := f18 (k := k) (k' := k') hm
  have hn1 := hm.n1
  have c19 := f19 (k := k) (k' := k') (outs := outs) hm (f := 0) (by omega) hG hrl hF
  obtain ⟨e, he, hg, hx⟩ := Zat AP3 (args := [encM k k' ins outs rows]) rfl (by decide)
  have he : e.length = 20 := he
  have h0 : getE e 0 = encM k k' ins outs rows := hg 0 (by simp only [List.length_cons]; omega)
  rw [hx]; clear hx hg; unfold c3
  simp only [Int.natCast_zero] at c19
  simp (disch := first | exact dJ | fail) only [go_sem, Nat.reduceAdd, Nat.reduceMul, Nat.reduceSub, Nat.reduceLeDiff, Nat.reduceLT, Nat.reduceEqDiff, h0, he, Zan, Zaf, Zai, List.getD_cons_zero, Zam, Zao, Zap, Zah, Zaj, Zae, Zad, Zag, c18, c19]
theorem f5 (hm : OKM ins outs rows) {s t : Nat} (hs : s < rows.length) (ht : t < rows.length) {r : List (Nat × Word)} (hG : Zip rows ins rows.length s r) (hrl : r.length ≤ 64) (hF : Fifo rows ins s [[]] [] r) : Zaq AP (X AP) false 5 [encM k k' ins outs rows, .int .i64 s, .int .i64 t] = some (.tup [encP (lk r t), .bool (lk r t).isSome, .int .i64 0], none) := by
  have c19 := f19 (k := k) (k' := k') (outs := outs) hm hs hG hrl hF
  have c31 := f31 (k := k) (k' := k') hm (l := [(s : Int), (t : Int)]) (by intro x hx; simp only [List.mem_cons, List.not_mem_nil, or_false] at hx; rcases hx with rfl | rfl <;> omega) (by simp) (c := some 2)
  have g1 := Zdt (vis := r) ht
  have g2 := Zes (vis := r) ht
  have l1 := Zcq rows.length r
  have l2 := Zcr rows.length r
  have hpe : Zak (encP (lk r t)) = true := by
    have := (inferInstance : Enc fP 1).pure (lk r t)
    simpa [fP, Zax, Zbi] using this
  obtain ⟨e, he, hg, hx⟩ := Zat AP5 (args := [encM k k' ins outs rows, .int .i64 s, .int .i64 t]) rfl (by decide)
  have he : e.length = 34 := he
  have h0 : getE e 0 = encM k k' ins outs rows := hg 0 (by simp only [List.length_cons]; omega)
  have h1 : getE e 1 = .int .i64 s := hg 1 (by simp only [List.length_cons]; omega)
  have h2 : getE e 2 = .int .i64 t := hg 2 (by simp only [List.length_cons]; omega)
  rw [hx]; clear hx hg; unfold c5
  have ciso : ∀ (own : List (Nat × Nat)) (id g : Nat) (H : Heap) (x : Opd) (ys : List Opd) (i gi : Nat), getH H i gi = some (.cells [.int .i64 s, .int .i64 t] .fixed) → opR AP own id g (.call .iso x ys) [.fn 31 [] [], encM k k' ins outs rows, .sl i gi 1 0 2 (some 2)] H = some (.int .i64 0, H, [i], []) := fun own id g H x ys i gi hg => by
    rw [Ycx x ys 31 _ i gi 1 (some 2) _ .fixed (by simp [Zak, Zak.pureL, Zcf]) hg (by simp [Zak, Zak.pureL]) rfl rfl]
    have c31' : Zaq AP (X AP) false 31 [encM k k' ins outs rows, .arr [.int .i64 s, .int .i64 t] 1 2 (some 2)] = some (.int .i64 0, none) := c31
    rw [c31']; exact Ziv ..
  simp (disch := first | exact dJ | fail) only [go_sem, Nat.reduceAdd, Nat.reduceMul, Nat.reduceSub, Nat.reduceLeDiff, Nat.reduceLT, Nat.reduceEqDiff, h0, h1, h2, he, Zan, Zaf, Zai, List.getD_cons_zero, Zam, Zao, Zap, Zah, Zaj, Zae, Zad, Zag, ciso, c19, Znz, Zeq, g1, g2, hpe]
theorem Zsq {l : List Int} {i : Nat} {b : Int} (h : i < l.length) : Zbf (l.flatMap fI) (i * 1) [.int .i64 b] = (l.set i b).flatMap fI := Zeo (f := fI) l i b h
theorem Zoy (l : List Int) : (l.flatMap fI).length = l.length := by rw [Zbn (f := fI)]; omega
theorem replI (n : Nat) : (List.replicate n [V.int .i64 0]).flatten = (List.replicate n (0 : Int)).flatMap fI := Zhj (f := fI) n 0
/-- The length of a path. -/
def dst (r : List (Nat × Word)) (t : Nat) : Int := match lk r t with
  | none => -1
  | some w => w.length
def dstN (n : Nat) (r : List (Nat × Word)) (i : Nat) : List Int := (List.range n).map fun t => if t < i then dst r t else 0
theorem Yay (n : Nat) (r : List (Nat × Word)) (i : Nat) : (dstN n r i).length = n := by simp [dstN]
theorem Yan {n i : Nat} (r : List (Nat × Word)) (hi : i < n) : (dstN n r i).set i (dst r i) = dstN n r (i + 1) := by
  refine Zqu _ _ n i hi (by simp) fun s hs => ?_
  by_cases h : s < i
  · rw [if_pos h, if_pos (by omega)]
  · rw [if_neg h, if_neg (by omega)]
theorem Zso {own : List (Nat × Nat)} {id g : Nat} {H : Heap} (w : Word) (x : Opd) : opR AP own id g (.len 0 x) [encP (some w)] H = some (.int .i64 w.length, H, [], []) := Ydh fI 1 w (kdP w) x
theorem f6 (hm : OKM ins outs rows) {s : Nat} (hs : s < rows.length) {r : List (Nat × Word)} (hG : Zip rows ins rows.length s r) (hrl : r.length ≤ 64) (hF : Fifo rows ins s [[]] [] r) : Zaq AP (X AP) false 6 [encM k k' ins outs rows, .int .i64 s] = some (.tup [ints ((List.range rows.length).map (dst r)) (.c (some rows.length)), .int .i64 0], none) := by
  have hn2 := hm.n2
  have c19 := f19 (k := k) (k' := k') (outs := outs) hm hs hG hrl hF
  have c31 := f31 (k := k) (k' := k') hm (l := [(s : Int)]) (by intro x hx; simp only [List.mem_cons, List.not_mem_nil, or_false] at hx; rcases hx with rfl; omega) (by simp) (c := some 1)
  have l1 := Zcq rows.length r
  have l2 := Zcr rows.length r
  obtain ⟨e, he, hg, hx⟩ := Zat AP6 (args := [encM k k' ins outs rows, .int .i64 s]) rfl (by decide)
  have he : e.length = 49 := he
  have h0 : getE e 0 = encM k k' ins outs rows := hg 0 (by simp only [List.length_cons]; omega)
  have h1 : getE e 1 = .int .i64 s := hg 1 (by simp only [List.length_cons]; omega)
  rw [hx]; clear hx hg; unfold c6
  have ciso : ∀ (own : List (Nat × Nat)) (id g : Nat) (H : Heap) (x : Opd) (ys : List Opd) (i gi : Nat), getH H i gi = some (.cells [.int .i64 s] .fixed) → opR AP own id g (.call .iso x ys) [.fn 31 [] [], encM k k' ins outs rows, .sl i gi 1 0 1 (some 1)] H = some (.int .i64 0, H, [i], []) := fun own id g H x ys i gi hg => by
    rw [Ycx x ys 31 _ i gi 1 (some 1) _ .fixed (by simp [Zak, Zak.pureL, Zcf]) hg (by simp [Zak, Zak.pureL]) rfl rfl]
    have c31' : Zaq AP (X AP) false 31 [encM k k' ins outs rows, .arr [.int .i64 s] 1 1 (some 1)] = some (.int .i64 0, none) := c31
    rw [c31']; exact Ziv ..
  simp (disch := first | exact dJ | fail) only [go_sem, Nat.reduceAdd, Nat.reduceMul, Nat.reduceSub, Nat.reduceLeDiff, Nat.reduceLT, Nat.reduceEqDiff, h0, h1, he, Zan, Zaf, Zai, List.getD_cons_zero, Zam, Zao, Zap, Zah, Zaj, Zae, Zad, Zag, ciso, c19, l1, replI]
  generalize hE : putE _ _ _ = E
  have hEl : E.length = 49 := by subst hE; simp (disch := first | exact dG | fail) only [Zab, Zaa, Zac, he]
  have p8 : getE E 8 = enS fB 1 (visB rows.length r) (.c (some rows.length)) := by subst hE; exact gQ he
  have p9 : getE E 9 = .sl 4 4 1 0 rows.length (some rows.length) := by subst hE; exact gQ he
  have p28 : getE E 28 = enS fP 1 (visL rows.length r) (.c (some rows.length)) := by subst hE; exact gQ he
  have p29 : getE E 29 = .int .i64 rows.length := by subst hE; exact gQ he
  have p30 : getE E 30 = .int .i64 (0 : Nat) := by subst hE; exact gZ he
  have hd0 : List.replicate rows.length (0 : Int) = dstN rows.length r 0 := by
    unfold dstN; apply List.ext_getElem (by simp); intro i h1 h2; simp
  rw [hd0]
  have key : ∃ ex e' H' g', X AP (.inl (some 5) B6_1) ⟨E, [some (0, oM k k' ins outs rows), some (1, O.cells [V.int IntKind.i64 ↑s] Kd.fixed), none, none, some (4, O.cells (List.flatMap fI (dstN rows.length r 0)) Kd.fixed)], 5, none⟩ = some (ex, ⟨e', H', g', none⟩) ∧ ex = .exit 0 ∧ e'.length = 49 ∧ getE e' 9 = .sl 4 4 1 0 rows.length (some rows.length) ∧ H' = [some (0, oM k k' ins outs rows), some (1, O.cells [V.int IntKind.i64 ↑s] Kd.fixed), none, none, some (4, O.cells (List.flatMap fI (dstN rows.length r rows.length)) Kd.fixed)] := by
    refine Zbx (fun k1 e H g => ∃ i : Nat, k1 + i = rows.length ∧ (e.length = 49 ∧ getE e 8 = enS fB 1 (visB rows.length r) (.c (some rows.length)) ∧ getE e 9 = .sl 4 4 1 0 rows.length (some rows.length) ∧ getE e 28 = enS fP 1 (visL rows.length r) (.c (some rows.length)) ∧ getE e 29 = .int .i64 rows.length ∧ getE e 30 = .int .i64 i) ∧ H = [some (0, oM k k' ins outs rows), some (1, O.cells [V.int IntKind.i64 ↑s] Kd.fixed), none, none, some (4, O.cells (List.flatMap fI (dstN rows.length r i)) Kd.fixed)]) _ ?_ rows.length E _ 5 ⟨0, by omega, ⟨hEl, p8, p9, p28, p29, p30⟩, rfl⟩
    rintro k1 e H g ⟨i, hk, ⟨he, h8, h9, h28, h29, h30⟩, rfl⟩
    unfold B6_1
    have w1 : IntKind.i64.wrap ((i : Int) + 1) = ((i + 1 : Nat) : Int) := by rw [Zay (by omega) (by omega)]; rfl
    by_cases hlt : i < rows.length
    · have hdl := Yay rows.length r i
      have hfl : ((dstN rows.length r i).flatMap fI).length = rows.length := by rw [Zoy, hdl]
      have g1 := Zdt (vis := r) hlt
      have g2 := Zes (vis := r) hlt
      have hset := Yan r hlt
      have hfl2 : (((dstN rows.length r i).set i (-1)).flatMap fI).length = rows.length := by rw [Zoy, List.length_set, hdl]
      cases hlk : lk r i with
      | none =>
        rw [hlk] at g1 g2
        simp only [Option.isSome_none] at g2
        have hds : dst r i = -1 := by unfold dst; rw [hlk]
        rw [hds] at hset
        simp (disch := first | exact dJ | fail) only [go_sem, Nat.reduceAdd, Nat.reduceMul, Nat.reduceSub, Nat.reduceLeDiff, Nat.reduceLT, Nat.reduceEqDiff, h8, h9, h28, h29, h30, he, w1, Zan, Zaf, Zai, List.getD_cons_zero, Zam, Zao, Zap, Zah, Zaj, Zae, Zad, Zag, Znz, Zeq, g1, g2, l1, l2, Zsq, hset]
        exact ⟨_, _, _, _, rfl, .inl ⟨rfl, k1 - 1, by omega, i + 1, by omega, ⟨gQ he, gQ h8, gQ h9, gQ h28, gQ h29, gQ he⟩, rfl⟩⟩
      | some w =>
        rw [hlk] at g1 g2
        simp only [Option.isSome_some] at g2
        have hds : dst r i = w.length := by unfold dst; rw [hlk]
        rw [hds] at hset
        have hll : i < ((dstN rows.length r i).set i (-1)).length := by rw [List.length_set, hdl]; exact hlt
        simp (disch := first | exact dJ | fail) only [go_sem, Nat.reduceAdd, Nat.reduceMul, Nat.reduceSub, Nat.reduceLeDiff, Nat.reduceLT, Nat.reduceEqDiff, h8, h9, h28, h29, h30, he, w1, Zan, Zaf, Zai, List.getD_cons_zero, Zam, Zao, Zap, Zah, Zaj, Zae, Zad, Zag, Znz, Zeq, g1, g2, l1, l2, Zsq, hset, Zso, List.set_set]
        exact ⟨_, _, _, _, rfl, .inl ⟨rfl, k1 - 1, by omega, i + 1, by omega, ⟨gQ he, gQ h8, gQ h9, gQ h28, gQ h29, gQ he⟩, rfl⟩⟩
    · have hi' : i = rows.length := by omega
      subst hi'
      simp (disch := first | exact dJ | fail) only [go_sem, Nat.reduceAdd, Nat.reduceMul, Nat.reduceSub, Nat.reduceLeDiff, Nat.reduceLT, Nat.reduceEqDiff, h8, h9, h28, h29, h30, he, w1, Zan, Zaf, Zai, List.getD_cons_zero, Zam, Zao, Zap, Zah, Zaj, Zae, Zad, Zag]
      exact ⟨_, _, _, _, rfl, .inr ⟨by simp, rfl, (gQ he), (gQ h9), rfl⟩⟩
  obtain ⟨ex, e1, H1, g1, hx, rfl, he1, h9, rfl⟩ := key
  rw [hx]
  have hdn : dstN rows.length r rows.length = (List.range rows.length).map (dst r) := by
    unfold dstN; apply List.map_congr_left; intro t ht; rw [if_pos (List.mem_range.mp ht)]
  rw [hdn]
  simp (disch := first | exact dJ | fail) only [go_sem, Nat.reduceAdd, Nat.reduceMul, Nat.reduceSub, Nat.reduceLeDiff, Nat.reduceLT, Nat.reduceEqDiff, h9, he1]
  exact Ybn (f := fI) _ _ _ _ _ .fixed (Zbe ..) rfl (by simp) (by simp only [Zei, Zeb, if_true] <;> rfl)
end
end Go.AM

namespace Go.AM
set_option maxRecDepth 100000
abbrev mA : V := .agg [.int .i64 2, .int .i64 2, .arr [.arr [.int .i64 2, .int .i64 0, .int .i64 0, .int .i64 1] 2 2 (some 2), .arr [.int .i64 1, .int .i64 0, .int .i64 2, .int .i64 0] 2 2 (some 2), .arr [.int .i64 (-1), .int .i64 (-1), .int .i64 3, .int .i64 1] 2 2 (some 2), .arr [.int .i64 2, .int .i64 0, .int .i64 0, .int .i64 0] 2 2 (some 2)] 1 4 (some 4)]
abbrev mS : V := .agg [.int .i64 2, .int .i64 2, .arr [.arr [.int .i64 1, .int .i64 0, .int .i64 0, .int .i64 1] 2 2 (some 2), .arr [.int .i64 (-1), .int .i64 (-1), .int .i64 2, .int .i64 1] 2 2 (some 2), .arr [.int .i64 1, .int .i64 0, .int .i64 0, .int .i64 0] 2 2 (some 2)] 1 3 (some 3)]
theorem r27 : Zaq AP (exec AP 300) false 27 [mA] = some (.tup [.arr [.int .i64 0, .int .i64 2, .int .i64 3] 1 3 (some 3), .int .i64 0], none) := by kernel_rfl
theorem r3 : Zaq AP (exec AP 300) false 3 [mA] = some (.tup [.arr [.nils, .nils, .arr [.int .i64 0] 1 1 (some 1), .arr [.int .i64 0, .int .i64 1] 1 2 (some 2)] 1 4 (some 4), .arr [.bool true, .bool false, .bool true, .bool true] 1 4 (some 4), .int .i64 0], none) := by kernel_rfl
theorem r5a : Zaq AP (exec AP 300) false 5 [mA, .int .i64 3, .int .i64 2] = some (.tup [.arr [.int .i64 0] 1 1 (some 1), .bool true, .int .i64 0], none) := by kernel_rfl
theorem r5b : Zaq AP (exec AP 300) false 5 [mA, .int .i64 2, .int .i64 2] = some (.tup [.nils, .bool true, .int .i64 0], none) := by kernel_rfl
theorem r5c : Zaq AP (exec AP 300) false 5 [mA, .int .i64 2, .int .i64 0] = some (.tup [.arr [.int .i64 1, .int .i64 1] 1 2 (some 2), .bool true, .int .i64 0], none) := by kernel_rfl
theorem r5d : Zaq AP (exec AP 300) false 5 [mA, .int .i64 0, .int .i64 1] = some (.tup [.nils, .bool false, .int .i64 0], none) := by kernel_rfl
theorem r6 : Zaq AP (exec AP 300) false 6 [mA, .int .i64 2] = some (.tup [.arr [.int .i64 2, .int .i64 (-1), .int .i64 0, .int .i64 1] 1 4 (some 4), .int .i64 0], none) := by kernel_rfl
theorem r10 : Zaq AP (exec AP 300) false 10 [mA] = some (.tup [mS, .arr [.int .i64 0, .int .i64 2, .int .i64 3] 1 3 (some 3), .int .i64 0], none) := by kernel_rfl
theorem r11 : Zaq AP (exec AP 300) false 11 [mA] = some (.tup [mS, .int .i64 0], none) := by kernel_rfl
theorem r16 : Zaq AP (exec AP 300) false 16 [mA] = some (.tup [.bool false, .int .i64 0], none) := by kernel_rfl
theorem r29 : Zaq AP (exec AP 300) false 29 [mA, mS] = some (.tup [.arr [.int .i64 0, .int .i64 (-1), .int .i64 1, .int .i64 2] 1 4 (some 4), .bool true, .int .i64 0], none) := by kernel_rfl
theorem r13 : Zaq AP (exec AP 300) false 13 [mS, .int .i64 0, mS] = some (.bool true, none) := by kernel_rfl
end Go.AM

set_option linter.unusedVariables false
set_option linter.unusedSimpArgs false
namespace Go.AM
section
variable {own : List (Nat × Nat)} {id g : Nat} {H : Heap}
theorem o_lenA (cs : List V) (sz n : Nat) (c : Option Nat) (x : Opd) : opR AP own id g (.len 0 x) [.arr cs sz n c] H = some (.int .i64 n, H, [], []) := rfl
theorem o_iadA (cs : List V) (sz n : Nat) (c : Option Nat) (x y : Opd) (k : IntKind) (i : Int) (h0 : 0 ≤ i) (h : i < n) : opR AP own id g (.iad sz x y) [.arr cs sz n c, .int k i] H = some (.pf cs (i.toNat * sz), H, [], []) := by
  show runP (if sz = sz ∧ (0 : Int) ≤ i ∧ i < n then _ else _) H = _
  rw [if_pos ⟨rfl, h0, h⟩]; simp [runP]
end
theorem f28 (a b : Int) : Zaq AP (X AP) false 28 [.int .i64 a, .int .i64 b] = some (.agg [.int .i64 a, .int .i64 b], none) := by
  obtain ⟨e, he, hg, hx⟩ := Zat AP28 (args := [.int .i64 a, .int .i64 b]) rfl (by decide)
  have he : e.length = 8 := he
  have h0 : getE e 0 = .int .i64 a := hg 0 (by simp only [List.length_cons]; omega)
  have h1 : getE e 1 = .int .i64 b := hg 1 (by simp only [List.length_cons]; omega)
  rw [hx]; clear hx hg; unfold c28
  simp (disch := first | exact dJ | fail) only [go_sem, Nat.reduceAdd, Nat.reduceMul, Nat.reduceSub, Nat.reduceLeDiff, Nat.reduceLT, Nat.reduceEqDiff, h0, h1, he, Zan, Zaf, Zai, List.getD_cons_zero, Zam, Zao, Zap, Zah, Zaj, Zae, Zad, Zag]
set_option maxRecDepth 100000 in
set_option maxHeartbeats 8000000 in
theorem f30 : Zaq AP (X AP) false 30 [] = some (.bool true, none) := by
  have x27 := Zbo (Zet 300) r27
  have x3 := Zbo (Zet 300) r3
  have x5a := Zbo (Zet 300) r5a
  have x5b := Zbo (Zet 300) r5b
  have x5c := Zbo (Zet 300) r5c
  have x5d := Zbo (Zet 300) r5d
  have x6 := Zbo (Zet 300) r6
  have x10 := Zbo (Zet 300) r10
  have x11 := Zbo (Zet 300) r11
  have x16 := Zbo (Zet 300) r16
  have x29 := Zbo (Zet 300) r29
  have x13 := Zbo (Zet 300) r13
  have y1 : Zaq AP (X AP) false 8 [.arr [.int .i64 0, .int .i64 2, .int .i64 3] 1 3 (some 3), .int .i64 0, .arr [.int .i64 0, .int .i64 2, .int .i64 3] 1 3 (some 3), .int .i64 0] = some (.bool true, none) := f8 (l := [0, 2, 3]) (kl := .c (some 3)) (kw := .c (some 3)) (by decide) rfl
  have y2 : Zaq AP (X AP) false 8 [.nils, .int .i64 0, .nils, .int .i64 0] = some (.bool true, none) := f8 (l := []) (kl := .n) (kw := .n) (by decide) rfl
  have y3 : Zaq AP (X AP) false 8 [.arr [.int .i64 0] 1 1 (some 1), .int .i64 0, .arr [.int .i64 0] 1 1 (some 1), .int .i64 0] = some (.bool true, none) := f8 (l := [0]) (kl := .c (some 1)) (kw := .c (some 1)) (by decide) rfl
  have y4 : Zaq AP (X AP) false 8 [.arr [.int .i64 0, .int .i64 1] 1 2 (some 2), .int .i64 0, .arr [.int .i64 0, .int .i64 1] 1 2 (some 2), .int .i64 0] = some (.bool true, none) := f8 (l := [0, 1]) (kl := .c (some 2)) (kw := .c (some 2)) (by decide) rfl
  have y5 : Zaq AP (X AP) false 8 [.arr [.int .i64 1, .int .i64 1] 1 2 (some 2), .int .i64 0, .arr [.int .i64 1, .int .i64 1] 1 2 (some 2), .int .i64 0] = some (.bool true, none) := f8 (l := [1, 1]) (kl := .c (some 2)) (kw := .c (some 2)) (by decide) rfl
  have y6 : Zaq AP (X AP) false 8 [.arr [.int .i64 2, .int .i64 (-1), .int .i64 0, .int .i64 1] 1 4 (some 4), .int .i64 0, .arr [.int .i64 2, .int .i64 (-1), .int .i64 0, .int .i64 1] 1 4 (some 4), .int .i64 0] = some (.bool true, none) := f8 (l := [2, -1, 0, 1]) (kl := .c (some 4)) (kw := .c (some 4)) (by decide) rfl
  have y7 : Zaq AP (X AP) false 8 [.arr [.int .i64 0, .int .i64 (-1), .int .i64 1, .int .i64 2] 1 4 (some 4), .int .i64 0, .arr [.int .i64 0, .int .i64 (-1), .int .i64 1, .int .i64 2] 1 4 (some 4), .int .i64 0] = some (.bool true, none) := f8 (l := [0, -1, 1, 2]) (kl := .c (some 4)) (kw := .c (some 4)) (by decide) rfl
  obtain ⟨e, he, hg, hx⟩ := Zat AP30 (args := []) rfl (by decide)
  have he : e.length = 266 := he
  rw [hx]; clear hx hg; unfold c30
  simp (disch := first | exact dZ | fail) only [Zft, Zha, Zdr, Zgw, Zfj, Zop, Zqf, Ztr, Zig, Ydq, Zde, Zca, Zhk, Zdx, Zfr, Zdg, Zyb, Zdf, Ziv, go_sem, Nat.reduceAdd, Nat.reduceMul, Nat.reduceSub, Nat.reduceLeDiff, Nat.reduceLT, Nat.reduceEqDiff, he, Zan, Zaf, Zai, List.getD_cons_zero, Zam, Zao, Zap, Zah, Zaj, Zae, Zad, Zag, f28, x27, x3, x5a, x5b, x5c, x5d, x6, x10, x11, x16, x29, x13, y1, y2, y3, y4, y5, y6, y7, o_lenA, o_iadA, Int.reduceToNat]
end Go.AM
