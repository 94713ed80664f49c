/- The arrivals: the states that are Zck, in the order of their paths. -/
import Derived.Test.YteooegmokbbeoaaGauFf
import Derived.Test.YteooegmokbbeoaaGauBh
set_option linter.unusedVariables false
set_option linter.unusedSimpArgs false
namespace Go.AM
/-- An arrival of a state and its word: the state, the one before it, the last input. -/
def arr3 (rows : List (List (Int × Int))) (fr : Int) (x : Nat × Word) : List V := match x.2.getLast? with
  | none => [.int .i64 x.1, .int .i64 (-1), .int .i64 (-1)]
  | some i => [.int .i64 x.1, .int .i64 (aft rows fr x.2.dropLast), .int .i64 i]
instance (rows : List (List (Int × Int))) (fr : Int) : Enc (arr3 rows fr) 3 := ⟨fun x => by unfold arr3; split <;> rfl, by decide, fun x => by unfold arr3; split <;> simp [Zak.pureL, Zak]⟩
theorem Zon (rows : List (List (Int × Int))) (fr : Int) (t : Nat) (w : Word) (i : Int) : arr3 rows fr (t, w ++ [i]) = [.int .i64 t, .int .i64 (aft rows fr w), .int .i64 i] := by
  simp [arr3]
theorem Ybf (rows : List (List (Int × Int))) (fr : Int) (t : Nat) : arr3 rows fr (t, []) = [.int .i64 t, .int .i64 (-1), .int .i64 (-1)] := rfl
theorem Ztd {rows : List (List (Int × Int))} {fr : Int} {x : Nat × Word} : ldC 1 false 0 (arr3 rows fr x) = some (.int .i64 x.1) := by unfold arr3; split <;> rfl
theorem ldC_a3 {rows : List (List (Int × Int))} {fr : Int} {x : Nat × Word} : ldC 3 true 0 (arr3 rows fr x) = some (.agg (arr3 rows fr x)) := by unfold arr3; split <;> rfl
theorem Zjf (rows : List (List (Int × Int))) : ∀ (u v : Word) (s : Int), aft rows s (u ++ v) = aft rows (aft rows s u) v
  | [], v, s => rfl
  | i :: u, v, s => Zjf rows u v _
section
variable {k k' : SC} {ins outs : Nat} {rows : List (List (Int × Int))}
/-- A queue in the heap. -/
def QO (rows : List (List (Int × Int))) (fr : Int) (H : Heap) (iq gq off : Nat) (q : List (Nat × Word)) (c : Option Nat) : Prop :=
  ∃ cs kd, getH H iq gq = some (.cells cs kd) ∧ cut cs off (q.length * 3) = q.flatMap (arr3 rows fr) ∧ off + q.length * 3 = cs.length ∧ (c = none ∧ kd = .loose ∨ c = some q.length ∧ kd = .fixed)
theorem Zbu {H : Heap} {i g : Nat} {o : O} (h : getH H i g = some o) : i < H.length := by
  unfold getH at h
  cases hx : H[i]? with
  | none => rw [hx] at h; cases h
  | some x => exact (List.getElem?_eq_some_iff.mp hx).1
/-- append to a queue. -/
theorem app_q {P : Zce} {own : List (Nat × Nat)} {rows : List (List (Int × Int))} {fr : Int} {H : Heap} {id g iq gq off jx gx : Nat} {q : List (Nat × Word)} {c cx : Option Nat} {a : Nat × Word} {n : Nat} (hn : n = q.length) (hq : QO rows fr H iq gq off q c) (hx : getH H jx gx = some (.cells (arr3 rows fr a) .fixed)) (hb : q.length ≤ 1000) (hid : id < H.length) (x y : Opd) :
    ∃ iq' rs ws, opR P own id g (.app 3 24 x y) [.sl iq gq 3 off n c, .sl jx gx 3 0 1 cx] H = some (.sl iq' g 3 0 (q.length + 1) none, H.set iq' (some (g, .cells ((q ++ [a]).flatMap (arr3 rows fr)) .loose)), rs, ws) ∧ (iq' = iq ∨ iq' = id) := by
  subst hn
  obtain ⟨cs, kd, h1, h2, h3, h4⟩ := hq
  have hiq := Zbu h1
  have hl : (arr3 rows fr a).length = 3 := Enc.len a
  have hc : cut (arr3 rows fr a) 0 (1 * 3) = arr3 rows fr a := by simp only [cut, List.drop_zero]; exact List.take_of_length_le (by rw [hl]; omega)
  have hb' : (q.length + 1) * 24 ≤ Zcp := by unfold Zcp; omega
  have hbb : (q.length + 1) * 24 ≤ Zcp ∧ 0 < 24 := ⟨hb', by decide⟩
  have hle : off + q.length * 3 ≤ cs.length := by omega
  have hfm : (q ++ [a]).flatMap (arr3 rows fr) = q.flatMap (arr3 rows fr) ++ arr3 rows fr a := by simp
  have hnl : ¬ (off + (q.length + 1) * 3 ≤ cs.length) := by omega
  have key : opR P own id g (.app 3 24 x y) [.sl iq gq 3 off q.length c, .sl jx gx 3 0 1 cx] H = runP (appP 3 24 id g (.sl iq gq 3 off q.length c) (.sl jx gx 3 0 1 cx)) H := rfl
  rw [key]
  rcases h4 with ⟨rfl, rfl⟩ | ⟨rfl, rfl⟩
  · refine ⟨iq, [jx, iq], [iq], ?_, .inl rfl⟩
    simp only [appP, Zjk, if_true, true_and, runP, hx, hl, Nat.zero_add, Nat.one_mul, Nat.le_refl, if_pos hbb, h1, if_pos hle, if_neg hnl, hiq]
    rw [show cut (arr3 rows fr a) 0 3 = arr3 rows fr a from hc, h2, hfm]
  · refine ⟨id, [jx, iq], [id], ?_, .inr rfl⟩
    simp only [appP, Zjk, if_true, true_and, runP, hx, hl, Nat.zero_add, Nat.one_mul, Nat.le_refl, if_pos hbb, h1, if_pos hle, Nat.lt_succ_self, hid]
    rw [show cut (arr3 rows fr a) 0 3 = arr3 rows fr a from hc, h2, hfm]
theorem ldC_q {rows : List (List (Int × Int))} {fr : Int} {cs : List V} {off : Nat} {a : Nat × Word} {q : List (Nat × Word)} (h : cut cs off ((q.length + 1) * 3) = (a :: q).flatMap (arr3 rows fr)) (hl : off + (q.length + 1) * 3 ≤ cs.length) : ldC 3 true off cs = some (.agg (arr3 rows fr a)) := by
  have h3 : (arr3 rows fr a).length = 3 := Enc.len a
  have : cut cs off 3 = arr3 rows fr a := by
    unfold cut at h ⊢
    have h' := congrArg (List.take 3) h
    rw [List.take_take, Nat.min_eq_left (by omega), List.flatMap_cons, List.take_append_of_le_length (by omega), List.take_of_length_le (l := arr3 rows fr a) (by omega)] at h'
    exact h'
  unfold ldC
  rw [if_pos (by omega), this]
  rfl
theorem QO.tail {rows : List (List (Int × Int))} {fr : Int} {H : Heap} {iq gq off : Nat} {a : Nat × Word} {q : List (Nat × Word)} {c : Option Nat} (h : QO rows fr H iq gq off (a :: q) c) : QO rows fr H iq gq (off + 3) q (c.map (· - 1)) := by
  obtain ⟨cs, kd, h1, h2, h3, h4⟩ := h
  have ha : (arr3 rows fr a).length = 3 := Enc.len a
  simp only [List.length_cons] at h2 h3 h4
  refine ⟨cs, kd, h1, ?_, by omega, ?_⟩
  · have := congrArg (List.drop 3) h2
    simp only [cut, List.flatMap_cons] at this ⊢
    rw [List.drop_left' ha, List.drop_take, List.drop_drop] at this
    rw [← this]
    congr 1
    omega
  · rcases h4 with ⟨rfl, rfl⟩ | ⟨rfl, rfl⟩
    · exact .inl ⟨rfl, rfl⟩
    · exact .inr ⟨by simp, rfl⟩
/-- What the consumer of arrivals does with each. -/
def Yok (rows : List (List (Int × Int))) (fr : Int) (yv : V) (b : Nat) (C : List (Nat × Word) → Heap → Prop) (r : List (Nat × Word)) : Prop :=
  ∀ (ys : List (Nat × Word)) (x : Nat × Word) (zs : List (Nat × Word)) (H : Heap) (γ : Nat), r = ys ++ x :: zs → C ys (H.take b) → b ≤ H.length → ∃ H' γ', Zek AP (X AP) yv [.agg (arr3 rows fr x)] H γ = some (.bool true, H', γ') ∧ C (ys ++ [x]) (H'.take b) ∧ H'.drop b = H.drop b
theorem Fifo.isPre {fr : Int} {cs : List Word} {vis r : List (Nat × Word)} (h : Fifo rows ins fr cs vis r) : ∃ zs, r = vis ++ zs := by
  induction h with
  | nil vis => exact ⟨[], by simp⟩
  | skip h hr ih => exact ih
  | visit h hr ih => obtain ⟨zs, rfl⟩ := ih; exact ⟨_, by rw [List.append_assoc]⟩
theorem Yew {H : Heap} {i b : Nat} (x : Option (Nat × O)) (h : i < b) : (H.set i x).drop b = H.drop b := by
  apply List.ext_getElem?
  intro n
  rw [List.getElem?_drop, List.getElem?_drop, List.getElem?_set_ne (by omega)]
theorem QO.mono {fr : Int} {H H' : Heap} {iq gq off : Nat} {q : List (Nat × Word)} {c : Option Nat} (h : QO rows fr H iq gq off q c) (he : getH H' iq gq = getH H iq gq) : QO rows fr H' iq gq off q c := by
  obtain ⟨cs, kd, h1, h2⟩ := h
  exact ⟨cs, kd, by rw [he]; exact h1, h2⟩
def Zks (n : Nat) (vis : List (Nat × Word)) : O := .cells ((visB n vis).flatMap fB) .fixed
theorem Yab (n : Nat) : visB n [] = List.replicate n false := by
  unfold visB; apply List.ext_getElem (by simp); intro i h1 h2; simp [lk]
/-- The edges of the state that is looked at. -/
theorem L58_2 (hm : OKM ins outs rows) {fr : Int} (hfr : St1 rows fr) {n : Nat} (hn : n = rows.length) {b : Nat} {r : List (Nat × Word)} {t : Nat} {w : Word} (ht : t < n) (haw : aft rows fr w = t) {CH : Heap} {rd : Option (Nat × Nat)} {vis0 q0 : List (Nat × Word)} (hu0 : vis0.length + unv n vis0 = n) (hq0 : q0.length ≤ vis0.length)
    (hqa0 : ∀ x ∈ q0, aft rows fr x.2 = x.1 ∧ x.1 < n) (hF0 : Fifo rows ins fr (exts ins w ++ q0.flatMap fun x => exts ins x.2) vis0 r) {v0 v1 v2 : V} {is gs ix gx : Nat} {e : List V} {H : Heap} {g iq gq off : Nat} {c : Option Nat}
    (hq : QO rows fr H iq gq off q0 c) (hs : getH H is gs = some (Zks n vis0)) (hx : getH H ix gx = some (.cells (arr3 rows fr (t, w)) .fixed)) (hb : b ≤ is ∧ b ≤ iq ∧ b ≤ ix ∧ is ≠ iq ∧ is ≠ ix ∧ iq ≠ ix) (hC : H.take b = CH)
    (h : e.length = 68 ∧ getE e 0 = v0 ∧ getE e 1 = v1 ∧ getE e 2 = v2 ∧ getE e 4 = .sl is gs 1 0 n (some n) ∧ getE e 5 = .sl iq gq 3 off q0.length c ∧ getE e 6 = .ptr ix gx 0 ∧ getE e 36 = enS fE 2 (rows.getD t []) k' ∧ getE e 37 = .int .i64 ins ∧ getE e 38 = .int .i64 (0 : Nat)) :
    ∃ ex e' H' g', X AP (.inl none Ygv) ⟨e, H, g, rd⟩ = some (ex, ⟨e', H', g', rd⟩) ∧
      ex = .exit 2 ∧ ∃ iq' gq' off' c' vis q, QO rows fr H' iq' gq' off' q c' ∧ getH H' is gs = some (Zks n vis) ∧ b ≤ iq' ∧ is ≠ iq' ∧ H'.take b = CH ∧ b ≤ H'.length ∧
        (e'.length = 68 ∧ getE e' 0 = v0 ∧ getE e' 1 = v1 ∧ getE e' 2 = v2 ∧ getE e' 4 = .sl is gs 1 0 n (some n) ∧ getE e' 5 = .sl iq' gq' 3 off' q.length c') ∧ vis.length + unv n vis = n ∧ q.length ≤ vis.length ∧ (∃ new, vis = vis0 ++ new ∧ q = q0 ++ new) ∧ (∀ x ∈ q, aft rows fr x.2 = x.1 ∧ x.1 < n) ∧
        Fifo rows ins fr (q.flatMap fun x => exts ins x.2) vis r := by
  have hn2 := hm.n2
  have hi2 := hm.i2
  refine Zbx (fun k1 e H g => ∃ (i iq gq off : Nat) (c : Option Nat) (vis q : List (Nat × Word)), k1 + i = ins ∧
    (e.length = 68 ∧ getE e 0 = v0 ∧ getE e 1 = v1 ∧ getE e 2 = v2 ∧ getE e 4 = .sl is gs 1 0 n (some n) ∧ getE e 5 = .sl iq gq 3 off q.length c ∧ getE e 6 = .ptr ix gx 0 ∧ getE e 36 = enS fE 2 (rows.getD t []) k' ∧ getE e 37 = .int .i64 ins ∧ getE e 38 = .int .i64 i) ∧
    QO rows fr H iq gq off q c ∧ getH H is gs = some (Zks n vis) ∧ getH H ix gx = some (.cells (arr3 rows fr (t, w)) .fixed) ∧ (b ≤ is ∧ b ≤ iq ∧ b ≤ ix ∧ is ≠ iq ∧ is ≠ ix ∧ iq ≠ ix) ∧ H.take b = CH ∧
    vis.length + unv n vis = n ∧ q.length ≤ vis.length ∧ (∃ new, vis = vis0 ++ new ∧ q = q0 ++ new) ∧ (∀ x ∈ q, aft rows fr x.2 = x.1 ∧ x.1 < n) ∧
    Fifo rows ins fr ((exts ins w).drop i ++ q.flatMap fun x => exts ins x.2) vis r) _ ?_ ins e _ g ⟨0, iq, gq, off, c, vis0, q0, by omega, h, hq, hs, hx, hb, hC, hu0, hq0, ⟨[], by simp, by simp⟩, hqa0, hF0⟩
  rintro k1 e H g ⟨i, iq, gq, off, c, vis, q, hk, ⟨he, h0, h1, h2, h4, h5, h6, h36, h37, h38⟩, hq, hs, hx, hb, hC, hu, hql, hnew, hqa, hF⟩
  have lis := Zbu hs
  have lix := Zbu hx
  have liq := Zbu hq.choose_spec.choose_spec.1
  unfold Ygv
  have w1 : IntKind.i64.wrap ((i : Int) + 1) = ((i + 1 : Nat) : Int) := by rw [Zay (by omega) (by omega)]; rfl
  by_cases hlt : i < ins
  · have hrow := hm.len t (by omega)
    have hok := hm.ok t (by omega) i hlt
    have hed : ((rows.getD t []).getD i (0, 0)).1 = (edg rows t i).1 := rfl
    have hdr : (exts ins w).drop i = (w ++ [(i : Int)]) :: (exts ins w).drop (i + 1) := by
      rw [List.drop_eq_getElem_cons (by simp [exts]; exact hlt)]; simp [exts]
    rw [hdr] at hF
    have hac : aft rows fr (w ++ [(i : Int)]) = (edg rows t i).1 := by
      rw [Zjf, haw]; simp only [aft, nxt]; rw [if_neg (by omega)]; simp
    by_cases hz : (edg rows t i).1 = -1
    · have hF' : Fifo rows ins fr ((exts ins w).drop (i + 1) ++ q.flatMap fun x => exts ins x.2) vis r := by
        cases hF with
        | skip h hr => exact hr
        | visit h hr => exact absurd (.inl (by rw [hac, hz]; decide)) h
      simp (disch := first | exact dJ | fail) only [go_sem, Nat.reduceAdd, Nat.reduceMul, Nat.reduceSub, Nat.reduceLeDiff, Nat.reduceLT, Nat.reduceEqDiff, h0, h1, h2, h4, h5, h6, h36, h37, h38, he, w1, Zan, Zaf, Zai, List.getD_cons_zero, Zam, Zao, Zap, Zah, Zaj, Zae, Zad, Zag, hed, hz]
      exact ⟨_, _, _, _, rfl, .inl ⟨rfl, k1 - 1, by omega, i + 1, iq, gq, off, c, vis, q, by omega, ⟨gQ he, gQ h0, gQ h1, gQ h2, gQ h4, gQ h5, gQ h6, gQ h36, gQ h37, gQ he⟩, hq.mono (by simp (disch := first | omega | (simp only [List.length_set, List.length_append, List.length_cons, List.length_nil]; omega)) only [Zal, Zar, Zas, Zbb, Zbk, List.length_set, List.length_append, List.length_cons, List.length_nil]), by simp (disch := first | omega | (simp only [List.length_set, List.length_append, List.length_cons, List.length_nil]; omega)) only [Zal, Zar, Zas, Zbb, Zbk, List.length_set, List.length_append, List.length_cons, List.length_nil, hs], by simp (disch := first | omega | (simp only [List.length_set, List.length_append, List.length_cons, List.length_nil]; omega)) only [Zal, Zar, Zas, Zbb, Zbk, List.length_set, List.length_append, List.length_cons, List.length_nil, hx], hb, by simp (disch := first | omega | (simp only [List.length_set, List.length_append, List.length_cons, List.length_nil]; omega)) only [Zal, Zar, Zas, Zbb, Zbk, List.length_set, List.length_append, List.length_cons, List.length_nil, hC], hu, hql, hnew, hqa, hF'⟩⟩
    · have hok2 : 0 ≤ (edg rows t i).1 ∧ (edg rows t i).1 < n := by
        rcases hok with h | h
        · rw [h] at hz; simp at hz
        · omega
      obtain ⟨y, hy⟩ : ∃ y : Nat, (edg rows t i).1 = y := ⟨(edg rows t i).1.toNat, by omega⟩
      rw [hy] at hac hok2 hz
      have hyn : y < n := by omega
      have hg := Zes (vis := vis) hyn
      have hBl := Zcr n vis
      have hfb : ((visB n vis).flatMap fB).length = n := by rw [Zdp, hBl]
      by_cases hv : lk vis y = none
      · rw [hv] at hg
        simp only [Option.isSome_none] at hg
        have hF' : Fifo rows ins fr ((exts ins w).drop (i + 1) ++ (q ++ [(y, w ++ [(i : Int)])]).flatMap fun x => exts ins x.2) (vis ++ [(y, w ++ [(i : Int)])]) r := by
          cases hF with
          | skip h hr => rw [hac] at h; simp only [Int.toNat_natCast] at h; rcases h with h | h
                         · omega
                         · exact absurd hv h
          | visit h hr => rw [hac] at hr; simpa [List.append_assoc] using hr
        unfold Zks at hs
        simp (disch := first | exact dJ | fail) only [go_sem, Nat.reduceAdd, Nat.reduceMul, Nat.reduceSub, Nat.reduceLeDiff, Nat.reduceLT, Nat.reduceEqDiff, h0, h1, h2, h4, h5, h6, h36, h37, h38, he, w1, Zan, Zaf, Zai, List.getD_cons_zero, Zam, Zao, Zap, Zah, Zaj, Zae, Zad, Zag, hed, hy, hs, hx, Ztd, Zeq, hg, Zer]
        generalize hE : putE _ _ _ = E
        have hEl : E.length = 68 := by subst hE; simp (disch := first | exact dG | fail) only [Zab, Zaa, Zac, he]
        have p0 : getE E 0 = v0 := by subst hE; exact gQ h0
        have p1 : getE E 1 = v1 := by subst hE; exact gQ h1
        have p2 : getE E 2 = v2 := by subst hE; exact gQ h2
        have p4 : getE E 4 = .sl is gs 1 0 n (some n) := by subst hE; exact gQ h4
        have p6 : getE E 6 = .ptr ix gx 0 := by subst hE; exact gQ h6
        have p36 : getE E 36 = enS fE 2 (rows.getD t []) k' := by subst hE; exact gQ h36
        have p37 : getE E 37 = .int .i64 ins := by subst hE; exact gQ h37
        have p38 : getE E 38 = .int .i64 i := by subst hE; exact gQ h38
        generalize hH2 : (List.set _ (List.length H + 1) _ : Heap) = H2
        have f1 : H2.length = H.length + 3 := by subst hH2; simp
        have f2 : getH H2 iq gq = getH H iq gq := by subst hH2; simp (disch := first | omega | (simp only [List.length_set, List.length_append, List.length_cons, List.length_nil]; omega)) only [Zal, Zar, Zas, Zbb, Zbk, List.length_set, List.length_append, List.length_cons, List.length_nil]
        have f3 : getH H2 (H.length + 1) (g + 1) = some (.cells (arr3 rows fr (y, w ++ [(i : Int)])) .fixed) := by
          subst hH2; rw [Zon, haw]; simp (disch := first | omega | (simp only [List.length_set, List.length_append, List.length_cons, List.length_nil]; omega)) only [Zal, Zar, Zas, Zbb, Zbk, List.length_set, List.length_append, List.length_cons, List.length_nil]
        have f4 : getH H2 is gs = some (Zks n (vis ++ [(y, w ++ [(i : Int)])])) := by subst hH2; rw [Zks, ← Zix hyn hv]; simp (disch := first | omega | (simp only [List.length_set, List.length_append, List.length_cons, List.length_nil]; omega)) only [Zal, Zar, Zas, Zbb, Zbk, List.length_set, List.length_append, List.length_cons, List.length_nil]
        have f5 : getH H2 ix gx = getH H ix gx := by subst hH2; simp (disch := first | omega | (simp only [List.length_set, List.length_append, List.length_cons, List.length_nil]; omega)) only [Zal, Zar, Zas, Zbb, Zbk, List.length_set, List.length_append, List.length_cons, List.length_nil]
        have f6 : H2.take b = H.take b := by subst hH2; simp (disch := first | omega | (simp only [List.length_set, List.length_append, List.length_cons, List.length_nil]; omega)) only [Zal, Zar, Zas, Zbb, Zbk, List.length_set, List.length_append, List.length_cons, List.length_nil]
        clear hE hH2
        obtain ⟨iq', rs, ws, happ, hor⟩ := app_q (P := AP) (own := []) (id := H.length + 1 + 1) (g := g + 1 + 1) (jx := H.length + 1) (gx := g + 1) (cx := some 1) (a := (y, w ++ [(i : Int)])) rfl (hq.mono f2) f3 (by omega) (by omega) (.t 58) (.t 65)
        rw [happ]
        have hu' := Zgl (w := w ++ [(i : Int)]) hyn hv
        simp (disch := first | exact dJ | fail) only [go_sem, Nat.reduceAdd, Nat.reduceMul, Nat.reduceSub, Nat.reduceLeDiff, Nat.reduceLT, Nat.reduceEqDiff, p0, p1, p2, p4, p6, p36, p37, p38, hEl, w1]
        refine ⟨_, _, _, _, rfl, .inl ⟨rfl, k1 - 1, by omega, i + 1, iq', g + 1 + 1, 0, none, vis ++ [(y, w ++ [(i : Int)])], q ++ [(y, w ++ [(i : Int)])], by omega, ⟨gQ hEl, gQ p0, gQ p1, gQ p2, gQ p4, (by rw [List.length_append]; simp (disch := first | exact dG | fail) only [Zab, Zaa, Zac, hEl] <;> rfl), gQ p6, gQ p36, gQ p37, gQ hEl⟩, ?_, ?_, ?_, by omega, ?_, by simp; omega, by simp; omega, ?_, ?_, hF'⟩⟩
        · refine ⟨_, .loose, Zas _ (by omega), ?_, ?_, .inl ⟨rfl, rfl⟩⟩
          · exact Zbt (f := arr3 rows fr) Enc.len _
          · rw [Zbn (f := arr3 rows fr)]; omega
        · rw [Zal _ (by omega)]; exact f4
        · rw [Zal _ (by omega), f5]; exact hx
        · rw [Zbb _ (by omega), f6]; exact hC
        · obtain ⟨new, hn1, hn2⟩ := hnew
          exact ⟨new ++ [(y, w ++ [(i : Int)])], by rw [hn1, List.append_assoc], by rw [hn2, List.append_assoc]⟩
        · intro x hxm
          rcases List.mem_append.mp hxm with h | h
          · exact hqa x h
          · simp only [List.mem_singleton] at h
            subst h
            exact ⟨hac, hyn⟩
      · have hF' : Fifo rows ins fr ((exts ins w).drop (i + 1) ++ q.flatMap fun x => exts ins x.2) vis r := by
          cases hF with
          | skip h hr => exact hr
          | visit h hr => exact absurd (.inr (by rw [hac]; exact hv)) h
        have hg' : (visB n vis).getD y false = true := by
          rw [hg]; cases h : lk vis y with
          | none => exact absurd h hv
          | some v => rfl
        have hs' := hs
        unfold Zks at hs
        simp (disch := first | exact dJ | fail) only [go_sem, Nat.reduceAdd, Nat.reduceMul, Nat.reduceSub, Nat.reduceLeDiff, Nat.reduceLT, Nat.reduceEqDiff, h0, h1, h2, h4, h5, h6, h36, h37, h38, he, w1, Zan, Zaf, Zai, List.getD_cons_zero, Zam, Zao, Zap, Zah, Zaj, Zae, Zad, Zag, hed, hy, hs, Zeq, hg']
        exact ⟨_, _, _, _, rfl, .inl ⟨rfl, k1 - 1, by omega, i + 1, iq, gq, off, c, vis, q, by omega, ⟨gQ he, gQ h0, gQ h1, gQ h2, gQ h4, gQ h5, gQ h6, gQ h36, gQ h37, gQ he⟩, hq.mono (by simp (disch := first | omega | (simp only [List.length_set, List.length_append, List.length_cons, List.length_nil]; omega)) only [Zal, Zar, Zas, Zbb, Zbk, List.length_set, List.length_append, List.length_cons, List.length_nil]), by simp (disch := first | omega | (simp only [List.length_set, List.length_append, List.length_cons, List.length_nil]; omega)) only [Zal, Zar, Zas, Zbb, Zbk, List.length_set, List.length_append, List.length_cons, List.length_nil, hs'], by simp (disch := first | omega | (simp only [List.length_set, List.length_append, List.length_cons, List.length_nil]; omega)) only [Zal, Zar, Zas, Zbb, Zbk, List.length_set, List.length_append, List.length_cons, List.length_nil, hx], hb, by simp (disch := first | omega | (simp only [List.length_set, List.length_append, List.length_cons, List.length_nil]; omega)) only [Zal, Zar, Zas, Zbb, Zbk, List.length_set, List.length_append, List.length_cons, List.length_nil, hC], hu, hql, hnew, hqa, hF'⟩⟩
  · have hi' : ins ≤ i := by omega
    rw [List.drop_eq_nil_of_le (by simp [exts]; omega), List.nil_append] at hF
    simp (disch := first | exact dJ | fail) only [go_sem, Nat.reduceAdd, Nat.reduceMul, Nat.reduceSub, Nat.reduceLeDiff, Nat.reduceLT, Nat.reduceEqDiff, h0, h1, h2, h4, h5, h6, h36, h37, h38, he, w1, Zan, Zaf, Zai, List.getD_cons_zero, Zam, Zao, Zap, Zah, Zaj, Zae, Zad, Zag]
    exact ⟨_, _, _, _, rfl, .inr ⟨by simp, rfl, iq, gq, off, c, vis, q, hq, hs, hb.2.1, hb.2.2.2.1, hC, by omega, ⟨gQ he, gQ h0, gQ h1, gQ h2, gQ h4, gQ h5⟩, hu, hql, hnew, hqa, hF⟩⟩
theorem Zhx {cs xs : List V} (h : xs.length = cs.length) : Zbf cs 0 xs = xs := by
  simp [Zbf, h]
theorem L58_1 (hm : OKM ins outs rows) {fr : Int} (hfr : St1 rows fr) {n : Nat} (hn : n = rows.length) {b : Nat} {C : List (Nat × Word) → Heap → Prop} {r : List (Nat × Word)} {yv : V} {im gm : Nat} (hY : Yok rows fr yv b C r) (hCm : ∀ ys K, C ys K → getH K im gm = some (oM k k' ins outs rows)) (hCl : ∀ ys K, C ys K → K.length = b) (him : im < b)
    {v2 : V} {is gs : Nat} {e : List V} {H : Heap} {g iq gq off : Nat} {c : Option Nat} {f : Nat}
    (hf : f < n) (hF : Fifo rows ins fr (exts ins []) [(f, [])] r) (hff : fr = f)
    (hq : QO rows fr H iq gq off [(f, [])] c) (hs : getH H is gs = some (Zks n [(f, [])])) (hb : b ≤ is ∧ b ≤ iq ∧ is ≠ iq) (hC : C [] (H.take b)) (hbl : b ≤ H.length)
    (h : e.length = 68 ∧ getE e 0 = yv ∧ getE e 1 = .ptr im gm 0 ∧ getE e 2 = v2 ∧ getE e 4 = .sl is gs 1 0 n (some n) ∧ getE e 5 = .sl iq gq 3 off (1 : Nat) c) :
    ∃ ex e' H' g', X AP (.inl none Yhe) ⟨e, H, g, none⟩ = some (ex, ⟨e', H', g', none⟩) ∧
      ex = .exit 0 ∧ C r (H'.take b) ∧ b ≤ H'.length := by
  have hn2 := hm.n2
  have hu0 : unv n ([] ++ [(f, ([] : Word))]) + 1 = unv n [] := Zgl hf rfl
  have hu1 : unv n [] = n := by unfold unv; simp [lk]
  rw [hu1, List.nil_append] at hu0
  refine Zbx (fun k1 e H g => ∃ (iq gq off : Nat) (c : Option Nat) (ys q : List (Nat × Word)), k1 = unv n (ys ++ q) + q.length ∧
    (e.length = 68 ∧ getE e 0 = yv ∧ getE e 1 = .ptr im gm 0 ∧ getE e 2 = v2 ∧ getE e 4 = .sl is gs 1 0 n (some n) ∧ getE e 5 = .sl iq gq 3 off q.length c) ∧
    QO rows fr H iq gq off q c ∧ getH H is gs = some (Zks n (ys ++ q)) ∧ (b ≤ is ∧ b ≤ iq ∧ is ≠ iq) ∧ C ys (H.take b) ∧ b ≤ H.length ∧
    (ys ++ q).length + unv n (ys ++ q) = n ∧ (∀ x ∈ q, aft rows fr x.2 = x.1 ∧ x.1 < n) ∧
    Fifo rows ins fr (q.flatMap fun x => exts ins x.2) (ys ++ q) r) _ ?_ (n - 1 + 1) e _ g ⟨iq, gq, off, c, [], [(f, [])], by simp; omega, h, hq, hs, hb, hC, hbl, by simp; omega, by intro x hx; simp only [List.mem_singleton] at hx; subst hx; exact ⟨hff, hf⟩, by simpa using hF⟩
  rintro k1 e H g ⟨iq, gq, off, c, ys, q, rfl, ⟨he, h0, h1, h2, h4, h5⟩, hq, hs, hb, hC, hbl, hu, hqa, hF⟩
  have lis := Zbu hs
  have liq := Zbu hq.choose_spec.choose_spec.1
  unfold Yhe
  cases q with
  | nil =>
    simp only [List.length_nil] at h5
    simp (disch := first | exact dJ | fail) only [go_sem, Nat.reduceAdd, Nat.reduceMul, Nat.reduceSub, Nat.reduceLeDiff, Nat.reduceLT, Nat.reduceEqDiff, h0, h1, h2, h4, h5, he, Zan, Zaf, Zai, List.getD_cons_zero, Zam, Zao, Zap, Zah, Zaj, Zae, Zad, Zag]
    simp only [List.flatMap_nil, List.append_nil] at hF
    cases hF
    exact ⟨_, _, _, _, rfl, .inr ⟨by simp, rfl, hC, hbl⟩⟩
  | cons x q =>
    obtain ⟨t, w⟩ := x
    obtain ⟨haw, htn⟩ := hqa (t, w) List.mem_cons_self
    simp only at haw htn
    have harr : (arr3 rows fr (t, w)).length = 3 := Enc.len (f := arr3 rows fr) (t, w)
    have hst : (Zbj (V.agg (arr3 rows fr (t, w)))).length = 3 := harr
    obtain ⟨cs, kd, hcs, hcut, hoff, hkd⟩ := id hq
    simp only [List.length_cons] at h5 hcut hoff hkd hu
    have hld := ldC_q (q := q) hcut (by omega)
    simp (disch := first | exact dJ | fail) only [go_sem, Nat.reduceAdd, Nat.reduceMul, Nat.reduceSub, Nat.reduceLeDiff, Nat.reduceLT, Nat.reduceEqDiff, h0, h1, h2, h4, h5, he, Zan, Zaf, Zai, List.getD_cons_zero, Zam, Zao, Zap, Zah, Zaj, Zae, Zad, Zag, hcs, hld, Zhx, ldC_a3]
    generalize hE : putE _ _ _ = E
    have hEl : E.length = 68 := by subst hE; simp (disch := first | exact dG | fail) only [Zab, Zaa, Zac, he]
    have p0 : getE E 0 = yv := by subst hE; exact gQ h0
    have p1 : getE E 1 = .ptr im gm 0 := by subst hE; exact gQ h1
    have p2 : getE E 2 = v2 := by subst hE; exact gQ h2
    have p4 : getE E 4 = .sl is gs 1 0 n (some n) := by subst hE; exact gQ h4
    have p5 : getE E 5 = .sl iq gq 3 (off + 3) q.length (c.map (· - 1)) := by subst hE; simp (disch := first | exact dG | fail) only [Zab, Zaa, Zac, he, Nat.add_sub_cancel]
    have p6 : getE E 6 = .ptr H.length g 0 := by subst hE; exact gQ he
    generalize hH1 : (List.set _ H.length (some (g, O.cells (arr3 rows fr (t, w)) .fixed)) ++ [none] : Heap) = H1
    have f1 : H1.length = H.length + 2 := by subst hH1; simp
    have f2 : getH H1 iq gq = getH H iq gq := by subst hH1; simp (disch := first | omega | (simp only [List.length_set, List.length_append, List.length_cons, List.length_nil]; omega)) only [Zal, Zar, Zas, Zbb, Zbk, List.length_set, List.length_append, List.length_cons, List.length_nil]
    have f4 : getH H1 is gs = getH H is gs := by subst hH1; simp (disch := first | omega | (simp only [List.length_set, List.length_append, List.length_cons, List.length_nil]; omega)) only [Zal, Zar, Zas, Zbb, Zbk, List.length_set, List.length_append, List.length_cons, List.length_nil]
    have f5 : getH H1 H.length g = some (.cells (arr3 rows fr (t, w)) .fixed) := by subst hH1; simp (disch := first | omega | (simp only [List.length_set, List.length_append, List.length_cons, List.length_nil]; omega)) only [Zal, Zar, Zas, Zbb, Zbk, List.length_set, List.length_append, List.length_cons, List.length_nil]
    have f6 : H1.take b = H.take b := by subst hH1; simp (disch := first | omega | (simp only [List.length_set, List.length_append, List.length_cons, List.length_nil]; omega)) only [Zal, Zar, Zas, Zbb, Zbk, List.length_set, List.length_append, List.length_cons, List.length_nil]
    clear hE hH1
    obtain ⟨zs, hzs⟩ := hF.isPre
    obtain ⟨H2, γ2, hcall, k1, k2⟩ := hY ys (t, w) (q ++ zs) H1 (g + 1 + 1) (by rw [hzs]; simp) (by rw [f6]; exact hC) (by omega)
    rw [hcall]
    have hl2 : H2.length = H1.length := by
      have k3 := hCl _ _ k1
      have k4 := congrArg List.length k2
      rw [List.length_take] at k3
      rw [List.length_drop, List.length_drop] at k4
      omega
    have g2 : getH H2 iq gq = getH H iq gq := by rw [Zlg k2 (by omega), f2]
    have g4 : getH H2 is gs = getH H is gs := by rw [Zlg k2 (by omega), f4]
    have g5 : getH H2 H.length g = some (.cells (arr3 rows fr (t, w)) .fixed) := by rw [Zlg k2 (by omega), f5]
    have g6 : getH H2 im gm = some (oM k k' ins outs rows) := by rw [← Ziu him]; exact hCm _ _ k1
    simp (disch := first | exact dJ | fail) only [go_sem, Nat.reduceAdd, Nat.reduceMul, Nat.reduceSub, Nat.reduceLeDiff, Nat.reduceLT, Nat.reduceEqDiff, p0, p1, p2, p4, p5, p6, hEl, Zan, Zaf, Zai, List.getD_cons_zero, Zam, Zao, Zap, Zah, Zaj, Zae, Zad, Zag, g5, g6, Ztd]
    generalize hE : putE _ _ _ = E
    have hEl1 : E.length = 68 := by subst hE; simp (disch := first | exact dG | fail) only [Zab, Zaa, Zac, hEl]
    have e0 : getE E 0 = yv := by subst hE; simp (disch := first | exact dG | fail) only [Zab, Zaa, Zac, p0]
    have e1 : getE E 1 = .ptr im gm 0 := by subst hE; simp (disch := first | exact dG | fail) only [Zab, Zaa, Zac, p1]
    have e2 : getE E 2 = v2 := by subst hE; simp (disch := first | exact dG | fail) only [Zab, Zaa, Zac, p2]
    have e4 : getE E 4 = .sl is gs 1 0 n (some n) := by subst hE; simp (disch := first | exact dG | fail) only [Zab, Zaa, Zac, p4]
    have e5 : getE E 5 = .sl iq gq 3 (off + 3) q.length (c.map (· - 1)) := by subst hE; simp (disch := first | exact dG | fail) only [Zab, Zaa, Zac, p5]
    have e6 : getE E 6 = .ptr H.length g 0 := by subst hE; simp (disch := first | exact dG | fail) only [Zab, Zaa, Zac, p6]
    have e36 : getE E 36 = enS fE 2 (rows.getD t []) k' := by subst hE; simp (disch := first | exact dG | fail) only [Zab, Zaa, Zac, he]
    have e37 : getE E 37 = .int .i64 ins := by rw [← hm.len t (by omega)]; subst hE; simp (disch := first | exact dG | fail) only [Zab, Zaa, Zac, he]
    have e38 : getE E 38 = .int .i64 (0 : Nat) := by subst hE; simp (disch := first | exact dG | fail) only [Zab, Zaa, Zac, he, Int.natCast_zero]
    have hvis : ys ++ (t, w) :: q = (ys ++ [(t, w)]) ++ q := by simp
    obtain ⟨ex, e', H3, g3, hx, rfl, iq', gq', off', c', vis, q', m1, m2, m3, m4, m5, m6, ⟨m7, m8, m9, m10, m11, m12⟩, m13, m14, ⟨new, rfl, rfl⟩, m16, m17⟩ := L58_2 (k' := k') (b := b) (CH := H2.take b) (rd := none) (vis0 := ys ++ (t, w) :: q) (q0 := q) (v0 := yv) (v1 := .ptr im gm 0) (v2 := v2) (ix := H.length) (gx := g) (H := H2) (g := γ2) hm hfr hn htn haw hu (by simp; omega) (fun x hx => hqa x (List.mem_cons_of_mem _ hx)) (by simpa using hF) ((hq.tail).mono g2) (by rw [g4]; exact hs) g5 ⟨hb.1, hb.2.1, by omega, hb.2.2, by omega, by omega⟩ rfl ⟨hEl1, e0, e1, e2, e4, e5, e6, e36, e37, e38⟩
    rw [hx]
    simp (disch := first | exact dJ | fail) only [go_sem, Nat.reduceAdd, Nat.reduceMul, Nat.reduceSub, Nat.reduceLeDiff, Nat.reduceLT, Nat.reduceEqDiff, he]
    refine ⟨_, _, _, _, rfl, .inl ⟨rfl, unv n ((ys ++ [(t, w)]) ++ (q ++ new)) + (q ++ new).length, ?_, iq', gq', off', c', ys ++ [(t, w)], q ++ new, rfl, ⟨m7, m8, m9, m10, m11, m12⟩, m1, ?_, ⟨hb.1, m3, m4⟩, (by rw [m5]; exact k1), m6, ?_, m16, ?_⟩⟩
    all_goals rw [show (ys ++ [(t, w)]) ++ (q ++ new) = (ys ++ (t, w) :: q) ++ new by simp]
    · simp only [List.length_append, List.length_cons] at m13 hu ⊢
      omega
    · exact m2
    · simp only [List.length_append, List.length_cons, List.length_nil] at m13 ⊢; omega
    · exact m17
theorem f58 (hm : OKM ins outs rows) {f : Nat} (hf : f < rows.length) {b : Nat} {C : List (Nat × Word) → Heap → Prop} {r : List (Nat × Word)} {yv : V} {im gm ifr gfr : Nat} {kf : Kd} (hY : Yok rows f yv b C r) (hCm : ∀ ys K, C ys K → getH K im gm = some (oM k k' ins outs rows)) {H : Heap} (hC : C [] H) (hCf : getH H ifr gfr = some (.cells [.int .i64 f] kf)) (hCl : ∀ ys K, C ys K → K.length = b)
    (hF : Fifo rows ins f [[]] [] r) (γ : Nat) : ∃ H' γ', Zdo AP (X AP) 58 [yv, .ptr im gm 0, .ptr ifr gfr 0] H γ = some (.tup [], H', γ') ∧ C r (H'.take b) ∧ b ≤ H'.length := by
  have hn1 := hm.n1
  have hn2 := hm.n2
  have him : im < b := by rw [← hCl _ _ hC]; exact Zbu (hCm _ _ hC)
  have hif : ifr < b := by rw [← hCl _ _ hC]; exact Zbu hCf
  have hF1 : Fifo rows ins f (exts ins []) [(f, [])] r := by
    cases hF with
    | skip h hr => exfalso; simp [aft, lk] at h; omega
    | visit h hr => simpa [aft] using hr
  obtain ⟨e, he, hg, hx⟩ := Zcu γ H AP58 (args := [yv, .ptr im gm 0, .ptr ifr gfr 0]) rfl (by decide)
  have he : e.length = 68 := he
  have h0 : getE e 0 = yv := hg 0 (by simp only [List.length_cons]; omega)
  have h1 : getE e 1 = .ptr im gm 0 := hg 1 (by simp only [List.length_cons]; omega)
  have h2 : getE e 2 = .ptr ifr gfr 0 := hg 2 (by simp only [List.length_cons]; omega)
  rw [hx]; clear hx hg; unfold c58
  have hb0 := hCl _ _ hC
  have hm0 := hCm _ _ hC
  have hlr : (List.replicate rows.length false).length = rows.length := by simp
  have hfl : ((List.replicate rows.length false).flatMap fB).length = rows.length := by rw [Zdp, hlr]
  simp (disch := first | exact dJ | fail) only [go_sem, Nat.reduceAdd, Nat.reduceMul, Nat.reduceSub, Nat.reduceLeDiff, Nat.reduceLT, Nat.reduceEqDiff, h0, h1, h2, he, Zan, Zaf, Zai, List.getD_cons_zero, Zam, Zao, Zap, Zah, Zaj, Zae, Zad, Zag, hm0, hCf, replB, Zer, hb0]
  generalize hE : putE _ _ _ = E
  have hEl : E.length = 68 := by subst hE; simp (disch := first | exact dG | fail) only [Zab, Zaa, Zac, he]
  have p0 : getE E 0 = yv := by subst hE; exact gQ h0
  have p1 : getE E 1 = .ptr im gm 0 := by subst hE; exact gQ h1
  have p2 : getE E 2 = .ptr ifr gfr 0 := by subst hE; exact gQ h2
  have p4 : getE E 4 = .sl b γ 1 0 rows.length (some rows.length) := by subst hE; exact gQ he
  have p5 : getE E 5 = .sl (b + 1) (γ + 1) 3 0 (1 : Nat) (some 1) := by subst hE; exact gQ he
  generalize hH1 : (List.set _ (b + 1) _ : Heap) = H1
  have f1 : H1.length = b + 2 := by subst hH1; simp [hb0]
  have f2 : getH H1 (b + 1) (γ + 1) = some (.cells (arr3 rows f (f, [])) .fixed) := by subst hH1; rw [Ybf]; simp (disch := first | omega | (simp only [List.length_set, List.length_append, List.length_cons, List.length_nil]; omega)) only [Zal, Zar, Zas, Zbb, Zbk, List.length_set, List.length_append, List.length_cons, List.length_nil, hb0]
  have f4 : getH H1 b γ = some (Zks rows.length [(f, [])]) := by
    have := Zix (vis := []) (w := []) hf rfl
    rw [Yab, List.nil_append] at this
    rw [Zks, ← this]
    subst hH1; simp (disch := first | omega | (simp only [List.length_set, List.length_append, List.length_cons, List.length_nil]; omega)) only [Zal, Zar, Zas, Zbb, Zbk, List.length_set, List.length_append, List.length_cons, List.length_nil, hb0]
  have f6 : H1.take b = H := by
    subst hH1
    have e1 : H.take b = H := by rw [← hb0]; exact List.take_length
    simp (disch := first | omega | (simp only [List.length_set, List.length_append, List.length_cons, List.length_nil]; omega)) only [Zal, Zar, Zas, Zbb, Zbk, List.length_set, List.length_append, List.length_cons, List.length_nil, hb0, e1]
  clear hE hH1
  obtain ⟨ex, e', H', g', hx, rfl, k1, k2⟩ := L58_1 (k := k) (k' := k') (v2 := .ptr ifr gfr 0) (im := im) (gm := gm) (H := H1) (g := γ + 1 + 1) (off := 0) (c := some 1) hm (fr := f) ⟨by omega, by omega⟩ rfl hY hCm hCl him hf hF1 rfl ⟨arr3 rows f (f, []), .fixed, f2, (by have := Zbt (f := arr3 rows f) Enc.len [(f, [])]; simpa using this), by rw [Enc.len (f := arr3 rows f)]; rfl, .inr ⟨rfl, rfl⟩⟩ f4 ⟨Nat.le_refl _, by omega, by omega⟩ (by rw [f6]; exact hC) (by omega) ⟨hEl, p0, p1, p2, p4, p5⟩
  rw [hx]
  simp (disch := first | exact dJ | fail) only [go_sem, Nat.reduceAdd, Nat.reduceMul, Nat.reduceSub, Nat.reduceLeDiff, Nat.reduceLT, Nat.reduceEqDiff, he]
  exact ⟨_, _, rfl, k1, k2⟩
end
end Go.AM
