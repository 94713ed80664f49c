/- Plain mathematics: words tried one after the other Zcp what can be Zck. -/
import Derived.Test.YteooegmokbbeoaaGauFm
set_option linter.unusedVariables false
set_option linter.unusedSimpArgs false
namespace Go.AM
section
variable {ins outs : Nat} {rows : List (List (Int × Int))} {fr : Int}
theorem Zjl {a : List (Nat × Word)} (b : List (Nat × Word)) {t : Nat} {w : Word} (h : lk a t = some w) : lk (a ++ b) t = some w := by
  induction a with
  | nil => cases h
  | cons x r ih =>
    obtain ⟨s, v⟩ := x
    simp only [lk, List.cons_append] at h ⊢
    split
    · rename_i e; rw [if_pos e] at h; exact h
    · rename_i e; rw [if_neg e] at h; exact ih h
structure FInv (rows : List (List (Int × Int))) (ins : Nat) (fr : Int) (cs : List Word) (vis : List (Nat × Word)) : Prop where
  wd : ∀ c ∈ cs, Wd ins c
  good : Zip rows ins rows.length fr vis
  cand : ∀ c ∈ cs, (c = [] ∨ ∃ (u : Word) (i : Int) (fs : Nat), c = u ++ [i] ∧ 0 ≤ i ∧ i < ins ∧ aft rows fr u = fs ∧ fs < rows.length ∧ lk vis fs = some u) ∧ c.length ≤ vis.length
  num : vis.length + unv rows.length vis = rows.length
  at_ : ∀ k w, lk vis k = some w → aft rows fr w = k ∧ k < rows.length ∧ Wd ins w
  srt : cs.Pairwise fun a b => a.length ≤ b.length
  two : ∀ a ∈ cs, ∀ b ∈ cs, b.length ≤ a.length + 1
  low : ∀ k w, lk vis k = some w → ∀ c ∈ cs, w.length ≤ c.length
  clo : ∀ k w, lk vis k = some w → ∀ i : Nat, i < ins → 0 ≤ aft rows fr (w ++ [(i : Int)]) → (w ++ [(i : Int)]) ∈ cs ∨ ∃ w', lk vis (aft rows fr (w ++ [(i : Int)])).toNat = some w' ∧ w'.length ≤ w.length + 1
theorem Zip.snoc {n : Nat} {vis : List (Nat × Word)} {x : Nat × Word} (h : Zip rows ins n fr vis) (hx : x.1 < n ∧ lk vis x.1 = none ∧ (x.2 = [] ∨ ∃ (u : Word) (i : Int) (fs : Nat), x.2 = u ++ [i] ∧ 0 ≤ i ∧ i < ins ∧ aft rows fr u = fs ∧ fs < n ∧ lk vis fs = some u) ∧ x.2.length ≤ vis.length) : Zip rows ins n fr (vis ++ [x]) := by
  intro ys y zs he
  rcases List.eq_nil_or_concat zs with rfl | ⟨zs', z, rfl⟩
  · have h1 : vis ++ [x] = ys ++ [y] := he
    obtain ⟨e1, e2⟩ := List.append_inj' h1 rfl
    simp only [List.cons.injEq, and_true] at e2
    subst e1; subst e2
    exact hx
  · have h1 : vis ++ [x] = (ys ++ y :: zs') ++ [z] := by rw [he]; simp
    obtain ⟨e1, e2⟩ := List.append_inj' h1 rfl
    exact h ys y zs' e1
theorem Zkg {w u : Word} : u ∈ exts ins w ↔ ∃ i : Nat, i < ins ∧ u = w ++ [(i : Int)] := by
  simp only [exts, List.mem_map, List.mem_range]
  constructor
  · rintro ⟨i, h, rfl⟩; exact ⟨i, h, rfl⟩
  · rintro ⟨i, h, rfl⟩; exact ⟨i, h, rfl⟩
theorem FInv.skip {c : Word} {cs : List Word} {vis : List (Nat × Word)} (h : FInv rows ins fr (c :: cs) vis) (hs : aft rows fr c < 0 ∨ lk vis (aft rows fr c).toNat ≠ none) : FInv rows ins fr cs vis := by
  obtain ⟨h1, h2, h3, h4, h5, h6, h7, h8, h9⟩ := h
  refine ⟨fun c hc => h1 c (List.mem_cons_of_mem _ hc), h2, fun c hc => h3 c (List.mem_cons_of_mem _ hc), h4, h5, (List.pairwise_cons.mp h6).2, fun a ha b hb => h7 a (List.mem_cons_of_mem _ ha) b (List.mem_cons_of_mem _ hb), fun k w hk c hc => h8 k w hk c (List.mem_cons_of_mem _ hc), fun k w hk i hi ha => ?_⟩
  rcases h9 k w hk i hi ha with h | h
  · rcases List.mem_cons.mp h with e | e
    · right
      rw [e] at ha
      rcases hs with hs | hs
      · omega
      · cases hv : lk vis (aft rows fr c).toNat with
        | none => exact absurd hv hs
        | some w' =>
          refine ⟨w', by rw [e]; exact hv, ?_⟩
          have := h8 _ w' hv c List.mem_cons_self
          rw [← e] at this
          simpa using this
    · exact .inl e
  · exact .inr h
theorem FInv.visit {c : Word} {cs : List Word} {vis : List (Nat × Word)} (hm : OKM ins outs rows) (hfr : St1 rows fr) (h : FInv rows ins fr (c :: cs) vis) (hs : ¬ (aft rows fr c < 0 ∨ lk vis (aft rows fr c).toNat ≠ none)) : FInv rows ins fr (cs ++ exts ins c) (vis ++ [((aft rows fr c).toNat, c)]) := by
  obtain ⟨h1, h2, h3, h4, h5, h6, h7, h8, h9⟩ := h
  have hc1 := h1 c List.mem_cons_self
  have hst := Zkv hm hfr hc1
  have h0 : 0 ≤ aft rows fr c := by
    rcases Int.lt_or_le (aft rows fr c) 0 with h | h
    · exact absurd (.inl h) hs
    · exact h
  have hv : lk vis (aft rows fr c).toNat = none := by
    cases hv : lk vis (aft rows fr c).toNat with
    | none => rfl
    | some v => exact absurd (.inr (by rw [hv]; simp)) hs
  generalize ht : (aft rows fr c).toNat = t at *
  have htc : aft rows fr c = t := by omega
  have htn : t < rows.length := by have := hst.2; omega
  have hl := Zds vis t c
  have hnew : lk (vis ++ [(t, c)]) t = some c := by rw [hl, hv]; simp
  have hold : ∀ k w, lk (vis ++ [(t, c)]) k = some w → lk vis k = some w ∨ (k = t ∧ w = c) := by
    intro k w hk
    rw [Zds] at hk
    cases hv' : lk vis k with
    | some v => rw [hv'] at hk; exact .inl hk
    | none =>
      rw [hv'] at hk
      simp only at hk
      split at hk
      · rename_i e; simp only [Option.some.injEq] at hk; exact .inr ⟨e.symm, hk.symm⟩
      · cases hk
  have hcs : ∀ a ∈ cs, c.length ≤ a.length := (List.pairwise_cons.mp h6).1
  have hcs2 : ∀ a ∈ cs, a.length ≤ c.length + 1 := fun a ha => h7 c List.mem_cons_self a (List.mem_cons_of_mem _ ha)
  have hex : ∀ u ∈ exts ins c, u.length = c.length + 1 := fun u hu => (Znp hc1 hu).2
  have hcv := (h3 c List.mem_cons_self).2
  refine ⟨?_, ?_, ?_, ?_, ?_, ?_, ?_, ?_, ?_⟩
  · intro u hu
    rcases List.mem_append.mp hu with h | h
    · exact h1 u (List.mem_cons_of_mem _ h)
    · exact (Znp hc1 h).1
  · exact h2.snoc ⟨htn, hv, (h3 c List.mem_cons_self).1, hcv⟩
  · intro u hu
    rcases List.mem_append.mp hu with h | h
    · obtain ⟨q1, q2⟩ := h3 u (List.mem_cons_of_mem _ h)
      refine ⟨?_, by simp; omega⟩
      rcases q1 with q1 | ⟨u', i, fs, e1, e2, e3, e4, e5, e6⟩
      · exact .inl q1
      · exact .inr ⟨u', i, fs, e1, e2, e3, e4, e5, Zjl _ e6⟩
    · obtain ⟨i, hi, rfl⟩ := Zkg.mp h
      exact ⟨.inr ⟨c, i, t, rfl, by omega, by omega, htc, htn, hnew⟩, by simp; omega⟩
  · have := Zgl (w := c) htn hv
    simp; omega
  · intro k w hk
    rcases hold k w hk with h | ⟨rfl, rfl⟩
    · exact h5 k w h
    · exact ⟨htc, htn, hc1⟩
  · rw [List.pairwise_append]
    refine ⟨(List.pairwise_cons.mp h6).2, ?_, fun a ha b hb => by rw [hex b hb]; exact hcs2 a ha⟩
    exact List.pairwise_of_forall_mem_list fun a ha b hb => by rw [hex a ha, hex b hb]; exact Nat.le_refl _
  · intro a ha b hb
    rcases List.mem_append.mp ha with h | h <;> rcases List.mem_append.mp hb with h' | h'
    · have := hcs a h; have := hcs2 b h'; omega
    · have := hcs a h; rw [hex b h']; omega
    · have := hcs2 b h'; rw [hex a h]; omega
    · rw [hex a h, hex b h']; omega
  · intro k w hk u hu
    have hwc : w.length ≤ c.length := by
      rcases hold k w hk with h | ⟨rfl, rfl⟩
      · exact h8 k w h c List.mem_cons_self
      · exact Nat.le_refl _
    rcases List.mem_append.mp hu with h | h
    · have := hcs u h; omega
    · rw [hex u h]; omega
  · intro k w hk i hi ha
    rcases hold k w hk with h | ⟨rfl, rfl⟩
    · rcases h9 k w h i hi ha with q | ⟨w', q1, q2⟩
      · rcases List.mem_cons.mp q with e | e
        · refine .inr ⟨c, ?_, ?_⟩
          · rw [e, ht]; exact hnew
          · rw [← e]; simp
        · exact .inl (List.mem_append.mpr (.inl e))
      · exact .inr ⟨w', Zjl _ q1, q2⟩
    · exact .inl (List.mem_append.mpr (.inr (Zkg.mpr ⟨i, hi, rfl⟩)))
theorem Fifo.inv {cs : List Word} {vis r : List (Nat × Word)} (hm : OKM ins outs rows) (hfr : St1 rows fr) (h : Fifo rows ins fr cs vis r) : FInv rows ins fr cs vis → FInv rows ins fr [] r := by
  induction h with
  | nil vis => exact id
  | skip h hr ih => exact fun hi => ih (hi.skip h)
  | visit h hr ih => exact fun hi => ih (hi.visit hm hfr h)
theorem Fifo.exists_ (hm : OKM ins outs rows) (hfr : St1 rows fr) : ∀ (m : Nat) (cs : List Word) (vis : List (Nat × Word)), unv rows.length vis * (ins + 1) + cs.length ≤ m → FInv rows ins fr cs vis → ∃ r, Fifo rows ins fr cs vis r
  | m, [], vis, _, _ => ⟨vis, .nil vis⟩
  | 0, c :: cs, vis, h, _ => by simp at h
  | m + 1, c :: cs, vis, h, hi => by
    by_cases hs : aft rows fr c < 0 ∨ lk vis (aft rows fr c).toNat ≠ none
    · obtain ⟨r, hr⟩ := Fifo.exists_ hm hfr m cs vis (by simp at h; omega) (hi.skip hs)
      exact ⟨r, .skip hs hr⟩
    · have hv : lk vis (aft rows fr c).toNat = none := by
        cases hv : lk vis (aft rows fr c).toNat with
        | none => rfl
        | some v => exact absurd (.inr (by rw [hv]; simp)) hs
      have hst := Zkv hm hfr (hi.wd c List.mem_cons_self)
      have hu := Zgl (w := c) (show (aft rows fr c).toNat < rows.length by have := hst.2; have := hm.n1; omega) hv
      obtain ⟨r, hr⟩ := Fifo.exists_ hm hfr m (cs ++ exts ins c) (vis ++ [((aft rows fr c).toNat, c)]) (by
        rw [← hu, Nat.add_mul] at h
        have : (exts ins c).length = ins := by simp [exts]
        simp only [List.length_append, List.length_cons, this] at h ⊢
        omega) (hi.visit hm hfr hs)
      exact ⟨r, .visit hs hr⟩
theorem FInv.start (hm : OKM ins outs rows) (fr : Int) : FInv rows ins fr [[]] [] := by
  refine ⟨?_, ?_, ?_, ?_, ?_, ?_, ?_, ?_, ?_⟩
  · intro c hc; simp only [List.mem_singleton] at hc; subst hc; intro x hx; cases hx
  · intro ys x zs h; simp at h
  · intro c hc; simp only [List.mem_singleton] at hc; subst hc; exact ⟨.inl rfl, Nat.le_refl _⟩
  · unfold unv; simp [lk]
  · intro k w h; cases h
  · exact List.pairwise_singleton _ _
  · intro a ha b hb; simp only [List.mem_singleton] at ha hb; subst ha; subst hb; omega
  · intro k w h; cases h
  · intro k w h; cases h
theorem Fifo.run (hm : OKM ins outs rows) (hfr : St1 rows fr) : ∃ r, Fifo rows ins fr [[]] [] r ∧ FInv rows ins fr [] r := by
  obtain ⟨r, hr⟩ := Fifo.exists_ hm hfr _ [[]] [] (Nat.le_refl _) (FInv.start hm fr)
  exact ⟨r, hr, hr.inv hm hfr (FInv.start hm fr)⟩
end
end Go.AM

set_option linter.unusedVariables false
set_option linter.unusedSimpArgs false
namespace Go.AM
theorem Zmg (S I O : Nat) (p : Bool) (es : List Nat) : OKM (1 + I % 3) (1 + O % 3) (Zfb (1 + S % 6) (1 + I % 3) (1 + O % 3) p es (1 + S % 6)) := by
  have hl := Zdl (1 + S % 6) (1 + I % 3) (1 + O % 3) p es (1 + S % 6)
  have hrow : ∀ s, s < 1 + S % 6 → (Zfb (1 + S % 6) (1 + I % 3) (1 + O % 3) p es (1 + S % 6)).getD s [] = Zrz (1 + S % 6) (1 + I % 3) (1 + O % 3) p es s := fun s hs => by
    simp [Zfb, List.getD_eq_getElem?_getD, hs]
  refine ⟨by omega, by omega, by omega, by omega, by omega, by omega, fun s hs => ?_, fun s hs i hi => ?_⟩
  · rw [hrow s (by omega)]; exact Zqp ..
  · unfold edg
    rw [hrow s (by omega), hl]
    have : (Zrz (1 + S % 6) (1 + I % 3) (1 + O % 3) p es s).getD i (0, 0) = Zfp (1 + S % 6) (1 + O % 3) p (es.getD (s * (1 + I % 3) + i) 0) := by
      simp [Zrz, List.getD_eq_getElem?_getD, hi]
    rw [this]
    unfold Zfp
    split
    · exact .inl rfl
    · right
      simp only
      have h1 := Nat.mod_lt (es.getD (s * (1 + I % 3) + i) 0 / 4) (show 0 < 1 + S % 6 by omega)
      have h2 := Nat.mod_lt (es.getD (s * (1 + I % 3) + i) 0 / 4 / (1 + S % 6)) (show 0 < 1 + O % 3 by omega)
      omega
theorem Zif : ∀ {r : List (Nat × Word)} {t : Nat} {w : Word}, lk r t = some w → ∃ ys zs, r = ys ++ (t, w) :: zs
  | [], _, _, h => by cases h
  | (s, v) :: r, t, w, h => by
    simp only [lk] at h
    split at h
    · rename_i e; subst e; simp only [Option.some.injEq] at h; subst h; exact ⟨[], r, rfl⟩
    · obtain ⟨ys, zs, rfl⟩ := Zif h; exact ⟨(s, v) :: ys, zs, rfl⟩
section
variable {ins outs : Nat} {rows : List (List (Int × Int))} {fr : Int}
theorem FInv.len {r : List (Nat × Word)} (h : FInv rows ins fr [] r) {t : Nat} {w : Word} (hl : lk r t = some w) : w.length ≤ rows.length := by
  obtain ⟨ys, zs, he⟩ := Zif hl
  have h1 := (h.good ys (t, w) zs he).2.2.2
  have h2 := h.num
  rw [he] at h2
  simp only [List.length_append, List.length_cons] at h1 h2
  omega
theorem dst_bd {r : List (Nat × Word)} (h : FInv rows ins fr [] r) (t : Nat) : -1 ≤ dst r t ∧ dst r t ≤ rows.length := by
  unfold dst
  cases hl : lk r t with
  | none => simp only; omega
  | some w => have := h.len hl; simp only; omega
theorem Yac (hm : OKM ins outs rows) {r : List (Nat × Word)} (h : FInv rows ins fr [] r) {k i y : Nat} (hk : k < rows.length) (hi : i < ins) (hd : 0 ≤ dst r k) (hy : (edg rows k i).1 = y) : 0 ≤ dst r y ∧ dst r y ≤ dst r k + 1 := by
  cases hl : lk r k with
  | none => unfold dst at hd; rw [hl] at hd; simp at hd
  | some w =>
    have ha := (h.at_ k w hl).1
    have hac : aft rows fr (w ++ [(i : Int)]) = y := by
      rw [Zjf, ha]; simp only [aft, nxt]; rw [if_neg (by omega)]; simpa using hy
    rcases h.clo k w hl i hi (by omega) with q | ⟨w', q1, q2⟩
    · cases q
    · rw [hac, Int.toNat_natCast] at q1
      unfold dst
      rw [hl, q1]
      simp only
      omega
theorem L79_2 (hm : OKM ins outs rows) {r : List (Nat × Word)} (hI : FInv rows ins fr [] r) {x0 x1 x3 x4 x5 x6 : Option (Nat × O)} {k : Nat} (hk : k < rows.length) {v15 v16 : V} {e : List V} {g : Nat} (h : e.length = 154 ∧ getE e 7 = .ptr 2 2 0 ∧ getE e 13 = ints ((List.range rows.length).map (dst r)) (.c (some rows.length)) ∧ getE e 15 = v15 ∧ getE e 16 = v16 ∧ getE e 17 = .int .i64 k ∧ getE e 19 = .int .i64 (0 : Nat)) :
    ∃ ex e' H' g', X AP (.inl (some 7) Ycf) ⟨e, [x0, x1, some (2, oM .n .n ins outs rows), x3, x4, x5, x6], g, none⟩ = some (ex, ⟨e', H', g', none⟩) ∧
      ex = .exit 2 ∧ H' = [x0, x1, some (2, oM .n .n ins outs rows), x3, x4, x5, x6] ∧ (e'.length = 154 ∧ getE e' 7 = .ptr 2 2 0 ∧ getE e' 13 = ints ((List.range rows.length).map (dst r)) (.c (some rows.length)) ∧ getE e' 15 = v15 ∧ getE e' 16 = v16 ∧ getE e' 17 = .int .i64 k) := by
  have hi2 := hm.i2
  have hn2 := hm.n2
  have hD : ∀ t : Nat, t < rows.length → ((List.range rows.length).map (dst r)).getD t 0 = dst r t := fun t ht => by simp [List.getD_eq_getElem?_getD, ht]
  have l3 : ((List.range rows.length).map (dst r)).length = rows.length := by simp
  refine Zbx (fun k1 e H g => ∃ i : Nat, k1 + i = ins ∧ (e.length = 154 ∧ getE e 7 = .ptr 2 2 0 ∧ getE e 13 = ints ((List.range rows.length).map (dst r)) (.c (some rows.length)) ∧ getE e 15 = v15 ∧ getE e 16 = v16 ∧ getE e 17 = .int .i64 k ∧ getE e 19 = .int .i64 i) ∧ H = [x0, x1, some (2, oM .n .n ins outs rows), x3, x4, x5, x6]) _ ?_ ins e _ g ⟨0, by omega, h, rfl⟩
  rintro k1 e H g ⟨i, hki, ⟨he, h7, h13, h15, h16, h17, h19⟩, rfl⟩
  unfold Ycf
  have w1 : IntKind.i64.wrap ((i : Int) + 1) = ((i + 1 : Nat) : Int) := by rw [Zay (by omega) (by omega)]; rfl
  by_cases hlt : i < ins
  · have hrow := hm.len k hk
    have hed : ((rows.getD k []).getD i (0, 0)).1 = (edg rows k i).1 := rfl
    have hok := hm.ok k hk i hlt
    have hDk := hD k hk
    have hb := dst_bd hI k
    generalize hDD : (List.range rows.length).map (dst r) = D at *
    by_cases hd : 0 ≤ dst r k
    · by_cases hz : 0 ≤ (edg rows k i).1
      · obtain ⟨y, hy⟩ : ∃ y : Nat, (edg rows k i).1 = y := ⟨(edg rows k i).1.toNat, by omega⟩
        have hyn : y < rows.length := by
          rcases hok with h | h
          · rw [h] at hz; simp at hz
          · omega
        have hst := Yac hm hI hk hlt hd hy
        have hDy := hD y hyn
        have w2 : IntKind.i64.wrap (dst r k + 1) = dst r k + 1 := Zay (by omega) (by omega)
        simp (disch := first | exact dJ | fail) only [go_sem, Nat.reduceAdd, Nat.reduceMul, Nat.reduceSub, Nat.reduceLeDiff, Nat.reduceLT, Nat.reduceEqDiff, h7, h13, h15, h16, h17, h19, he, w1, w2, Zan, Zaf, Zai, List.getD_cons_zero, Zam, Zao, Zap, Zah, Zaj, Zae, Zad, Zag, hed, hy, hDk, hDy, l3]
        exact ⟨_, _, _, _, rfl, .inl ⟨rfl, k1 - 1, by omega, i + 1, by omega, ⟨gQ he, gQ h7, gQ h13, gQ h15, gQ h16, gQ h17, gQ he⟩, rfl⟩⟩
      · simp (disch := first | exact dJ | fail) only [go_sem, Nat.reduceAdd, Nat.reduceMul, Nat.reduceSub, Nat.reduceLeDiff, Nat.reduceLT, Nat.reduceEqDiff, h7, h13, h15, h16, h17, h19, he, w1, Zan, Zaf, Zai, List.getD_cons_zero, Zam, Zao, Zap, Zah, Zaj, Zae, Zad, Zag, hed, hDk, l3]
        exact ⟨_, _, _, _, rfl, .inl ⟨rfl, k1 - 1, by omega, i + 1, by omega, ⟨gQ he, gQ h7, gQ h13, gQ h15, gQ h16, gQ h17, gQ he⟩, rfl⟩⟩
    · simp (disch := first | exact dJ | fail) only [go_sem, Nat.reduceAdd, Nat.reduceMul, Nat.reduceSub, Nat.reduceLeDiff, Nat.reduceLT, Nat.reduceEqDiff, h7, h13, h15, h16, h17, h19, he, w1, Zan, Zaf, Zai, List.getD_cons_zero, Zam, Zao, Zap, Zah, Zaj, Zae, Zad, Zag, hed, hDk, l3]
      exact ⟨_, _, _, _, rfl, .inl ⟨rfl, k1 - 1, by omega, i + 1, by omega, ⟨gQ he, gQ h7, gQ h13, gQ h15, gQ h16, gQ h17, gQ he⟩, rfl⟩⟩
  · simp (disch := first | exact dJ | fail) only [go_sem, Nat.reduceAdd, Nat.reduceMul, Nat.reduceSub, Nat.reduceLeDiff, Nat.reduceLT, Nat.reduceEqDiff, h7, h13, h15, h16, h17, h19, he, w1, Zan, Zaf, Zai, List.getD_cons_zero, Zam, Zao, Zap, Zah, Zaj, Zae, Zad, Zag]
    exact ⟨_, _, _, _, rfl, .inr ⟨by simp, rfl, rfl, ⟨gQ he, gQ h7, gQ h13, gQ h15, gQ h16, gQ h17⟩⟩⟩
theorem Ybx {own : List (Nat × Nat)} {id g : Nat} {H : Heap} (w : Word) (x : Opd) : opR AP own id g (.len 0 x) [encO (some w)] H = some (.int .i64 w.length, H, [], []) := Ydh fI 1 w (kdW w) x
theorem L79_1 (hm : OKM ins outs rows) {r : List (Nat × Word)} (hI : FInv rows ins fr [] r) {x0 x1 x3 x4 x5 x6 : Option (Nat × O)} {e : List V} {g : Nat} (h : e.length = 154 ∧ getE e 7 = .ptr 2 2 0 ∧ getE e 13 = ints ((List.range rows.length).map (dst r)) (.c (some rows.length)) ∧ getE e 15 = enS fO 1 (visL rows.length r) (.c (some rows.length)) ∧ getE e 16 = enS fB 1 (visB rows.length r) (.c (some rows.length)) ∧ getE e 17 = .int .i64 (0 : Nat)) :
    ∃ ex e' H' g', X AP (.inl (some 7) Yhb) ⟨e, [x0, x1, some (2, oM .n .n ins outs rows), x3, x4, x5, x6], g, none⟩ = some (ex, ⟨e', H', g', none⟩) ∧
      ex = .exit 0 ∧ e'.length = 154 := by
  have hi2 := hm.i2
  have hn2 := hm.n2
  have hD : ∀ t : Nat, t < rows.length → ((List.range rows.length).map (dst r)).getD t 0 = dst r t := fun t ht => by simp [List.getD_eq_getElem?_getD, ht]
  have l3 : ((List.range rows.length).map (dst r)).length = rows.length := by simp
  have l1 := Zcq rows.length r
  have l2 := Zcr rows.length r
  refine Zbx (fun k1 e H g => ∃ k : Nat, k1 + k = rows.length ∧ (e.length = 154 ∧ getE e 7 = .ptr 2 2 0 ∧ getE e 13 = ints ((List.range rows.length).map (dst r)) (.c (some rows.length)) ∧ getE e 15 = enS fO 1 (visL rows.length r) (.c (some rows.length)) ∧ getE e 16 = enS fB 1 (visB rows.length r) (.c (some rows.length)) ∧ getE e 17 = .int .i64 k) ∧ H = [x0, x1, some (2, oM .n .n ins outs rows), x3, x4, x5, x6]) _ ?_ rows.length e _ g ⟨0, by omega, h, rfl⟩
  rintro k1 e H g ⟨k, hki, ⟨he, h7, h13, h15, h16, h17⟩, rfl⟩
  unfold Yhb
  have w1 : IntKind.i64.wrap ((k : Int) + 1) = ((k + 1 : Nat) : Int) := by rw [Zay (by omega) (by omega)]; rfl
  by_cases hlt : k < rows.length
  · have g1 := Zdt (vis := r) hlt
    have g2 := Zes (vis := r) hlt
    have hDk := hD k hlt
    have tail : ∀ {e : List V} {g : Nat}, (e.length = 154 ∧ getE e 7 = .ptr 2 2 0 ∧ getE e 13 = ints ((List.range rows.length).map (dst r)) (.c (some rows.length)) ∧ getE e 15 = enS fO 1 (visL rows.length r) (.c (some rows.length)) ∧ getE e 16 = enS fB 1 (visB rows.length r) (.c (some rows.length)) ∧ getE e 17 = .int .i64 k ∧ getE e 19 = .int .i64 (0 : Nat)) → ∃ e' g', X AP (.inl (some 7) Ycf) ⟨e, [x0, x1, some (2, oM .n .n ins outs rows), x3, x4, x5, x6], g, none⟩ = some (.exit 2, ⟨e', [x0, x1, some (2, oM .n .n ins outs rows), x3, x4, x5, x6], g', none⟩) ∧ (e'.length = 154 ∧ getE e' 7 = .ptr 2 2 0 ∧ getE e' 13 = ints ((List.range rows.length).map (dst r)) (.c (some rows.length)) ∧ getE e' 15 = enS fO 1 (visL rows.length r) (.c (some rows.length)) ∧ getE e' 16 = enS fB 1 (visB rows.length r) (.c (some rows.length)) ∧ getE e' 17 = .int .i64 k) := fun {e} {g} h => by
      obtain ⟨ex, e', H', g', hx, rfl, rfl, h2⟩ := L79_2 hm hI (x0 := x0) (x1 := x1) (x3 := x3) (x4 := x4) (x5 := x5) (x6 := x6) hlt (g := g) h
      exact ⟨e', g', hx, h2⟩
    cases hlk : lk r k with
    | none =>
      rw [hlk] at g1 g2
      simp only [Option.isSome_none] at g2
      have hds : dst r k = -1 := by unfold dst; rw [hlk]
      rw [hds] at hDk
      simp (disch := first | exact dJ | fail) only [go_sem, Nat.reduceAdd, Nat.reduceMul, Nat.reduceSub, Nat.reduceLeDiff, Nat.reduceLT, Nat.reduceEqDiff, h7, h13, h15, h16, h17, he, w1, Zan, Zaf, Zai, List.getD_cons_zero, Zam, Zao, Zap, Zah, Zaj, Zae, Zad, Zag, Zeq, g1, g2, l1, l2, l3, hDk]
      generalize hE : putE _ _ _ = E
      have hEl : E.length = 154 := by subst hE; simp (disch := first | exact dG | fail) only [Zab, Zaa, Zac, he]
      have p7 : getE E 7 = .ptr 2 2 0 := by subst hE; exact gQ h7
      have p13 : getE E 13 = ints ((List.range rows.length).map (dst r)) (.c (some rows.length)) := by subst hE; exact gQ h13
      have p15 : getE E 15 = enS fO 1 (visL rows.length r) (.c (some rows.length)) := by subst hE; exact gQ h15
      have p16 : getE E 16 = enS fB 1 (visB rows.length r) (.c (some rows.length)) := by subst hE; exact gQ h16
      have p17 : getE E 17 = .int .i64 k := by subst hE; exact gQ h17
      have p19 : getE E 19 = .int .i64 (0 : Nat) := by subst hE; exact gZ he
      obtain ⟨e1, g1', hx, he1, q7, q13, q15, q16, q17⟩ := tail (g := g) ⟨hEl, p7, p13, p15, p16, p17, p19⟩
      rw [hx]
      simp (disch := first | exact dJ | fail) only [go_sem, Nat.reduceAdd, Nat.reduceMul, Nat.reduceSub, Nat.reduceLeDiff, Nat.reduceLT, Nat.reduceEqDiff, q7, q13, q15, q16, q17, he1, w1]
      exact ⟨_, _, _, _, rfl, .inl ⟨rfl, k1 - 1, by omega, k + 1, by omega, ⟨gQ he1, gQ q7, gQ q13, gQ q15, gQ q16, gQ he1⟩, rfl⟩⟩
    | some w =>
      rw [hlk] at g1 g2
      simp only [Option.isSome_some] at g2
      have hds : dst r k = w.length := by unfold dst; rw [hlk]
      rw [hds] at hDk
      simp (disch := first | exact dJ | fail) only [go_sem, Nat.reduceAdd, Nat.reduceMul, Nat.reduceSub, Nat.reduceLeDiff, Nat.reduceLT, Nat.reduceEqDiff, h7, h13, h15, h16, h17, he, w1, Zan, Zaf, Zai, List.getD_cons_zero, Zam, Zao, Zap, Zah, Zaj, Zae, Zad, Zag, Zqq, Zeq, g1, g2, l1, l2, l3, hDk, Ybx]
      generalize hE : putE _ _ _ = E
      have hEl : E.length = 154 := by subst hE; simp (disch := first | exact dG | fail) only [Zab, Zaa, Zac, he]
      have p7 : getE E 7 = .ptr 2 2 0 := by subst hE; exact gQ h7
      have p13 : getE E 13 = ints ((List.range rows.length).map (dst r)) (.c (some rows.length)) := by subst hE; exact gQ h13
      have p15 : getE E 15 = enS fO 1 (visL rows.length r) (.c (some rows.length)) := by subst hE; exact gQ h15
      have p16 : getE E 16 = enS fB 1 (visB rows.length r) (.c (some rows.length)) := by subst hE; exact gQ h16
      have p17 : getE E 17 = .int .i64 k := by subst hE; exact gQ h17
      have p19 : getE E 19 = .int .i64 (0 : Nat) := by subst hE; exact gZ he
      obtain ⟨e1, g1', hx, he1, q7, q13, q15, q16, q17⟩ := tail (g := g) ⟨hEl, p7, p13, p15, p16, p17, p19⟩
      rw [hx]
      simp (disch := first | exact dJ | fail) only [go_sem, Nat.reduceAdd, Nat.reduceMul, Nat.reduceSub, Nat.reduceLeDiff, Nat.reduceLT, Nat.reduceEqDiff, q7, q13, q15, q16, q17, he1, w1]
      exact ⟨_, _, _, _, rfl, .inl ⟨rfl, k1 - 1, by omega, k + 1, by omega, ⟨gQ he1, gQ q7, gQ q13, gQ q15, gQ q16, gQ he1⟩, rfl⟩⟩
  · simp (disch := first | exact dJ | fail) only [go_sem, Nat.reduceAdd, Nat.reduceMul, Nat.reduceSub, Nat.reduceLeDiff, Nat.reduceLT, Nat.reduceEqDiff, h7, h13, h15, h16, h17, he, w1, Zan, Zaf, Zai, List.getD_cons_zero, Zam, Zao, Zap, Zah, Zaj, Zae, Zad, Zag, l1]
    exact ⟨_, _, _, _, rfl, .inr ⟨by simp, rfl, (gQ he)⟩⟩
end
theorem f79 (S I O F T : Nat) (p : Bool) (es : List Nat) (ke : SC) (hes : ∀ i, es.getD i 0 < 65536) (hF : F < 256) (hT : T < 256) : Zaq AP (X AP) false 79 [.agg [.int .u8 S, .int .u8 I, .int .u8 O, .bool p, enS (fN .u16) 1 es ke], .int .u8 F, .int .u8 T] = some (.bool true, none) := by
  have hm := Zmg S I O p es
  have c2 := f2 S I O p es ke hes
  have hl := Zdl (1 + S % 6) (1 + I % 3) (1 + O % 3) p es (1 + S % 6)
  generalize Zfb (1 + S % 6) (1 + I % 3) (1 + O % 3) p es (1 + S % 6) = rows at *
  have hi3 : 1 + I % 3 ≤ 3 := by omega
  have hn6 : 1 + S % 6 ≤ 6 := by omega
  generalize 1 + I % 3 = ins at *
  generalize 1 + O % 3 = outs at *
  generalize 1 + S % 6 = n at *
  subst hl
  have hn1 := hm.n1
  have hs : F % rows.length < rows.length := Nat.mod_lt _ (by omega)
  have ht : T % rows.length < rows.length := Nat.mod_lt _ (by omega)
  have w1 : IntKind.i64.wrap (F : Int) = F := Zfy (by omega)
  have w2 : IntKind.i64.wrap (T : Int) = T := Zfy (by omega)
  have w3 := Zfe F rows.length
  have w4 := Zfe T rows.length
  generalize F % rows.length = s at *
  generalize T % rows.length = t at *
  obtain ⟨r, hr, hI⟩ := Fifo.run (ins := ins) hm (fr := (s : Nat)) ⟨by omega, by omega⟩
  have hrl : r.length ≤ 64 := by have := hI.num; omega
  have c5 := f5 (k := .n) (k' := .n) (outs := outs) hm hs ht hI.good hrl hr
  have c6 := f6 (k := .n) (k' := .n) (outs := outs) hm hs hI.good hrl hr
  have c7 := f7 (k := .n) (k' := .n) (outs := outs) hm (fr := (s : Nat)) ⟨by omega, by omega⟩ hr
  have c30 := f30
  have g1 := Zdt (vis := r) ht
  have g2 := Zes (vis := r) ht
  have l1 := Zcq rows.length r
  have l2 := Zcr rows.length r
  have l3 : ((List.range rows.length).map (dst r)).length = rows.length := by simp
  have c8 : Zaq AP (X AP) false 8 [encP (lk r t), .int .i64 0, encO (lk r t), .int .i64 0] = some (.bool true, none) := by
    cases hlk : lk r t with
    | none => exact f8 (l := []) (kl := .n) (kw := .n) (by decide) rfl
    | some w =>
      have hwl := hI.len hlk
      refine f8 (l := w) (kl := kdP w) (kw := kdW w) (by have := hm.n2; omega) ?_
      unfold kdP
      cases w with
      | nil => rfl
      | cons a t => rfl
  have hpe : Zak (encP (lk r t)) = true := by
    have := (inferInstance : Enc fP 1).pure (lk r t)
    simpa [fP, Zax, Zbi] using this
  have hpo : Zak (encO (lk r t)) = true := by
    have := (inferInstance : Enc fO 1).pure (lk r t)
    simpa [fO, Zax, Zbi] using this
  have hcap : capV (ints ((List.range rows.length).map (dst r)) (.c (some rows.length))) = some (.int .i64 rows.length) := rfl
  obtain ⟨e, he, hg, hx⟩ := Zat AP79 (args := [.agg [.int .u8 S, .int .u8 I, .int .u8 O, .bool p, enS (fN .u16) 1 es ke], .int .u8 F, .int .u8 T]) rfl (by decide)
  have he : e.length = 154 := he
  have h0 : getE e 0 = .agg [.int .u8 S, .int .u8 I, .int .u8 O, .bool p, enS (fN .u16) 1 es ke] := hg 0 (by simp only [List.length_cons]; omega)
  have h1 : getE e 1 = .int .u8 F := hg 1 (by simp only [List.length_cons]; omega)
  have h2 : getE e 2 = .int .u8 T := hg 2 (by simp only [List.length_cons]; omega)
  rw [hx]; clear hx hg; unfold c79
  simp (disch := first | exact dJ | fail) only [go_sem, Nat.reduceAdd, Nat.reduceMul, Nat.reduceSub, Nat.reduceLeDiff, Nat.reduceLT, Nat.reduceEqDiff, h0, h1, h2, he, Zan, Zaf, Zai, List.getD_cons_zero, Zam, Zao, Zap, Zah, Zaj, Zae, Zad, Zag, c2, c5, c6, c7, c8, w1, w2, w3, w4, l1, l2, l3, Zqq, Zeq, g1, g2, hpe, hpo, hcap]
  generalize hE : putE _ _ _ = E
  have hEl : E.length = 154 := by subst hE; simp (disch := first | exact dG | fail) only [Zab, Zaa, Zac, he]
  have p7 : getE E 7 = .ptr 2 2 0 := by subst hE; exact gQ he
  have p13 : getE E 13 = ints ((List.range rows.length).map (dst r)) (.c (some rows.length)) := by subst hE; exact gQ he
  have p15 : getE E 15 = enS fO 1 (visL rows.length r) (.c (some rows.length)) := by subst hE; exact gQ he
  have p16 : getE E 16 = enS fB 1 (visB rows.length r) (.c (some rows.length)) := by subst hE; exact gQ he
  have p17 : getE E 17 = .int .i64 (0 : Nat) := by subst hE; exact gZ he
  obtain ⟨ex, e1, H1, g1', hx, rfl, he1⟩ := L79_1 hm hI (x0 := some (0, AM.O.cells [V.int IntKind.u8 ↑S, V.int IntKind.u8 ↑I, V.int IntKind.u8 ↑O, V.bool p, enS (fN IntKind.u16) 1 es ke] Kd.fixed)) (x1 := none) (x3 := none) (x4 := none) (x5 := none) (x6 := none) (g := 7) ⟨hEl, p7, p13, p15, p16, p17⟩
  rw [hx]
  simp (disch := first | exact dJ | fail) only [go_sem, Nat.reduceAdd, Nat.reduceMul, Nat.reduceSub, Nat.reduceLeDiff, Nat.reduceLT, Nat.reduceEqDiff, he1, c30]
end Go.AM
