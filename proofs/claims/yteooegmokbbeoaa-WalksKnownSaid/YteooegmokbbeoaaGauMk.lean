/- Plain mathematics: states are Zck by their Zri words. -/
import Derived.Test.YteooegmokbbeoaaGauMb
set_option linter.unusedVariables false
set_option linter.unusedSimpArgs false
namespace Go.AM
/-- Not behind, in the order of words. -/
def leW (a b : Word) : Prop := a = b ∨ ltW a b = true
theorem leW.refl (a : Word) : leW a a := .inl rfl
theorem leW.trans {a b c : Word} (h1 : leW a b) (h2 : leW b c) : leW a c := by
  rcases h1 with rfl | h1
  · exact h2
  · rcases h2 with rfl | h2
    · exact .inr h1
    · exact .inr (Zis h1 h2)
theorem leW.antisymm {a b : Word} (h1 : leW a b) (h2 : leW b a) : a = b := by
  rcases h1 with h1 | h1
  · exact h1
  · rcases h2 with h2 | h2
    · exact h2.symm
    · have := Zis h1 h2; rw [Zmf] at this; cases this
theorem Ybb {u c : Word} {i : Int} (h : leW u c) : leW (u ++ [i]) (c ++ [i]) := by
  rcases h with rfl | h
  · exact .inl rfl
  · right
    rw [Zem] at h
    rcases h with h | ⟨h1, h2⟩
    · rw [Zem]; left; simp; omega
    · exact Zsc h1 ((Zem _ _).mpr (.inr ⟨h1, h2⟩))
theorem Zkw (rows : List (List (Int × Int))) : ∀ (s : Int) (w : Word) (j : Int), aft rows s (w ++ [j]) = (nxt rows (aft rows s w) j).1
  | s, [], j => rfl
  | s, a :: w, j => by simp only [List.cons_append, aft]; exact Zkw rows _ w j
section
variable {ins outs : Nat} {rows : List (List (Int × Int))} {fr : Int}
/-- What leads on from what was visited is visited by a word that is not behind, or will be tried. -/
def FC (rows : List (List (Int × Int))) (ins : Nat) (fr : Int) (vis : List (Nat × Word)) (cs : List Word) : Prop :=
  ∀ (k : Nat) (w : Word), lk vis k = some w → ∀ i : Nat, i < ins → 0 ≤ aft rows fr (w ++ [(i : Int)]) → (w ++ [(i : Int)]) ∈ cs ∨ ∃ w', lk vis (aft rows fr (w ++ [(i : Int)])).toNat = some w' ∧ leW w' (w ++ [(i : Int)])
theorem Fifo.clo {cs : List Word} {vis r : List (Nat × Word)} (hm : OKM ins outs rows) (hfr : St1 rows fr) (h : Fifo rows ins fr cs vis r) : FInv rows ins fr cs vis → FO vis cs → FC rows ins fr vis cs → FC rows ins fr r [] := by
  induction h with
  | nil vis => exact fun _ _ h => h
  | @skip c cs vis r hs hr ih =>
    intro hi ho hc
    have ho' : FO vis cs := by
      unfold FO at *
      obtain ⟨h1, h2, h3⟩ := List.pairwise_append.mp ho
      exact List.pairwise_append.mpr ⟨h1, (List.pairwise_cons.mp h2).2, fun a ha b hb => h3 a ha b (List.mem_cons_of_mem _ hb)⟩
    refine ih (hi.skip hs) ho' fun k w hk i hii ha => ?_
    rcases hc k w hk i hii ha with q | q
    · rcases List.mem_cons.mp q with e | e
      · right
        rw [e] at ha ⊢
        rcases hs with hs | hs
        · omega
        · cases hv : lk vis (aft rows fr c).toNat with
          | none => exact absurd hv hs
          | some w' =>
            refine ⟨w', rfl, .inr ?_⟩
            unfold FO at ho
            exact (List.pairwise_append.mp ho).2.2 w' (Zvt hv) c List.mem_cons_self
      · exact .inl e
    · exact .inr q
  | @visit c cs vis r hs hr ih =>
    intro hi ho hc
    refine ih (hi.visit hm hfr hs) (FO.visit hi ho) fun k w hk i hii ha => ?_
    have hl := Zds vis (aft rows fr c).toNat c
    have hv : lk vis (aft rows fr c).toNat = none := by
      cases hv : lk vis (aft rows fr c).toNat with
      | none => rfl
      | some v => exact absurd (.inr (by rw [hv]; simp)) hs
    have hnew : lk (vis ++ [((aft rows fr c).toNat, c)]) (aft rows fr c).toNat = some c := by rw [hl, hv]; simp
    have hold : lk vis k = some w ∨ w = c := by
      rw [Zds] at hk
      cases hv' : lk vis k with
      | some v => rw [hv'] at hk; exact .inl hk
      | none =>
        rw [hv'] at hk
        simp only at hk
        split at hk
        · simp only [Option.some.injEq] at hk; exact .inr hk.symm
        · cases hk
    rcases hold with q | rfl
    · rcases hc k w q i hii ha with q | ⟨w', q1, q2⟩
      · rcases List.mem_cons.mp q with e | e
        · right
          rw [e]
          exact ⟨c, hnew, leW.refl _⟩
        · exact .inl (List.mem_append.mpr (.inl e))
      · exact .inr ⟨w', Zjl _ q1, q2⟩
    · exact .inl (List.mem_append.mpr (.inr (Zkg.mpr ⟨i, hii, rfl⟩)))
/-- **Each state that a word reaches is Zck, by a word that is not behind.** -/
theorem Fifo.least {r : List (Nat × Word)} (hm : OKM ins outs rows) (hfr : St1 rows fr) (h0 : 0 ≤ fr) (h : Fifo rows ins fr [[]] [] r) (hI : FInv rows ins fr [] r) : ∀ (m : Nat) (w : Word), w.length = m → Wd ins w → ∀ t : Nat, aft rows fr w = t → ∃ v, lk r t = some v ∧ leW v w
  | 0, w, hl, hw, t, ht => by
    have : w = [] := List.eq_nil_of_length_eq_zero hl
    subst this
    have hne : lk r t ≠ none := by
      cases h with
      | skip h hr =>
        rcases h with h | h
        · simp [aft] at h; omega
        · exact absurd rfl h
      | visit h hr =>
        obtain ⟨zs, hz⟩ := Fifo.isPre hr
        have : (aft rows fr []).toNat = t := by rw [ht]; simp
        rw [hz, this]
        have : lk ([] ++ [(t, ([] : Word))]) t = some [] := by simp [lk]
        rw [Zjl zs this]; simp
    obtain ⟨v, hv⟩ := Option.ne_none_iff_exists'.mp hne
    refine ⟨v, hv, ?_⟩
    have hs := Fifo.sorted hm hfr h
    cases h with
    | skip h hr =>
      rcases h with h | h
      · simp [aft] at h; omega
      · exact absurd rfl h
    | visit h hr =>
      obtain ⟨zs, hz⟩ := Fifo.isPre hr
      have e : (aft rows fr []).toNat = t := by rw [ht]; simp
      have : lk ([] ++ [(t, ([] : Word))]) t = some [] := by simp [lk]
      rw [e] at hz
      rw [hz, Zjl zs this] at hv
      cases hv
      exact leW.refl _
  | m + 1, w, hl, hw, t, ht => by
    rcases List.eq_nil_or_concat w with rfl | ⟨u, i, rfl⟩
    · simp at hl
    · rw [List.concat_eq_append] at *
      have hi := hw i (by simp)
      have hu : Wd ins u := fun x hx => hw x (by simp [hx])
      rw [Zkw] at ht
      have hn : ¬ aft rows fr u < 0 := by
        intro q
        unfold nxt at ht
        rw [if_pos q] at ht
        simp at ht
      obtain ⟨s, hs⟩ : ∃ s : Nat, aft rows fr u = s := ⟨(aft rows fr u).toNat, by omega⟩
      obtain ⟨v, hv, hvu⟩ := Fifo.least hm hfr h0 h hI m u (by simp at hl; omega) hu s hs
      have hFC : FC rows ins fr r [] := Fifo.clo hm hfr h (FInv.start hm fr) (by simp [FO]) (by intro k w hk; cases hk)
      have hva := (hI.at_ s v hv).1
      have hstep : aft rows fr (v ++ [i]) = t := by rw [Zkw, hva, ← hs]; exact ht
      have hi' : ((i.toNat : Nat) : Int) = i := Int.toNat_of_nonneg hi.1
      rcases hFC s v hv i.toNat (by omega) (by rw [hi', hstep]; omega) with q | ⟨w', q1, q2⟩
      · cases q
      · rw [hi', hstep, Int.toNat_natCast] at q1
        rw [hi'] at q2
        exact ⟨w', q1, q2.trans (Ybb hvu)⟩
end
end Go.AM
