/- Sorting a list of at most twelve numbers, as the standard library does it. -/
import Derived.Test.YteooegmokbbeoaaGauGa
import Derived.KernelRfl
set_option linter.unusedVariables false
set_option linter.unusedSimpArgs false
namespace Go.AM
theorem f74 (a : Int) : Zaq AP (X AP) false 74 [.int .i64 a] = some (.bool false, none) := by
  obtain ⟨e, he, hg, hx⟩ := Zat AP74 (args := [.int .i64 a]) rfl (by decide)
  have he : e.length = 6 := he
  have h0 : getE e 0 = .int .i64 a := hg 0 (by simp only [List.length_cons]; omega)
  rw [hx]; clear hx hg; unfold c74
  simp (disch := first | exact dJ | fail) only [go_sem, Nat.reduceAdd, Nat.reduceMul, Nat.reduceSub, Nat.reduceLeDiff, Nat.reduceLT, Nat.reduceEqDiff, h0, he, Zan, Zaf, Zai, List.getD_cons_zero, Zam, Zao, Zap, Zah, Zaj, Zae, Zad, Zag, o_neq, bne_self_eq_false]
theorem f75 (a b : Int) : Zaq AP (X AP) false 75 [.int .i64 a, .int .i64 b] = some (.bool (decide (a < b)), none) := by
  have c1 := f74 a
  have c2 := f74 b
  obtain ⟨e, he, hg, hx⟩ := Zat AP75 (args := [.int .i64 a, .int .i64 b]) rfl (by decide)
  have he : e.length = 17 := he
  have h0 : getE e 0 = .int .i64 a := hg 0 (by simp only [List.length_cons]; omega)
  have h1 : getE e 1 = .int .i64 b := hg 1 (by simp only [List.length_cons]; omega)
  rw [hx]; clear hx hg; unfold c75
  simp (disch := first | exact dJ | fail) only [go_sem, Nat.reduceAdd, Nat.reduceMul, Nat.reduceSub, Nat.reduceLeDiff, Nat.reduceLT, Nat.reduceEqDiff, h0, h1, he, Zan, Zaf, Zai, List.getD_cons_zero, Zam, Zao, Zap, Zah, Zaj, Zae, Zad, Zag, c1, c2]
/-- In order up to a place, but for one element that may have to go to the front. -/
def Zlm (L : List Int) (i j : Nat) : Prop := ∀ p q, p < q → q ≤ i → q ≠ j → L.getD p 0 ≤ L.getD q 0
def swp (L : List Int) (j : Nat) : List Int := (L.set j (L.getD (j - 1) 0)).set (j - 1) (L.getD j 0)
theorem swp_len (L : List Int) (j : Nat) : (swp L j).length = L.length := by simp [swp]
theorem Ybw {L : List Int} {j : Nat} (hj : j < L.length) : (swp L j).Perm L := by
  have h1 : j - 1 < L.length := by omega
  have := List.set_set_perm (as := L) hj h1
  unfold swp
  simpa [List.getD_eq_getElem?_getD, hj, h1] using this
theorem Zue {L : List Int} {i j : Nat} (hj : 0 < j) (hji : j ≤ i) (hi : i < L.length) (h : Zlm L i j) (hlt : L.getD j 0 < L.getD (j - 1) 0) : Zlm (swp L j) i (j - 1) := by
  intro p q hpq hq hne
  have hg : ∀ x, x < L.length → (swp L j).getD x 0 = if x = j - 1 then L.getD j 0 else if x = j then L.getD (j - 1) 0 else L.getD x 0 := by
    intro x hx
    unfold swp
    simp only [List.getD_eq_getElem?_getD, List.getElem?_set, List.length_set]
    grind
  rw [hg p (by omega), hg q (by omega)]
  unfold Zlm at h
  have := h p q hpq hq
  have := h (j - 1) q
  have := h p (j - 1)
  have := h j q
  grind
theorem Zmu {L : List Int} {i j : Nat} (h : Zlm L i j) (hj : j = 0 ∨ L.getD (j - 1) 0 ≤ L.getD j 0) : ∀ p q, p < q → q ≤ i → L.getD p 0 ≤ L.getD q 0 := by
  intro p q hpq hq
  by_cases hqj : q = j
  · subst hqj
    rcases hj with hj | hj
    · omega
    · by_cases hp : p = q - 1
      · subst hp; exact hj
      · have := h p (q - 1) (by omega) (by omega) (by omega); omega
  · exact h p q hpq hq hqj

theorem Zzn {l : List Int} {i : Nat} {b : Int} (h : i < l.length) : Zbf (l.flatMap fI) (i * 1) [.int .i64 b] = (l.set i b).flatMap fI := Zeo (f := fI) l i b h
theorem Zgu {H K : Heap} {i : Nat} (x : Option (Nat × O)) (h : i < H.length) : (H ++ K).set i x = H.set i x ++ K := by
  rw [List.set_append_left _ _ h]
theorem L86_2 {Hs : Heap} {sid gi n : Nat} {c : Option Nat} {kd : Kd} (hk : Zcs kd = true) (hid : sid < Hs.length) {i : Nat} (hi : i < n) (hn : n ≤ 64) {L0 : List Int} (hL0 : L0.length = n) (hs : Zlm L0 i i) {e : List V} {g : Nat} (h : e.length = 49 ∧ getE e 0 = .sl sid gi 1 0 n c ∧ getE e 1 = .int .i64 0 ∧ getE e 2 = .int .i64 n ∧ getE e 6 = .int .i64 i ∧ getE e 7 = .int .i64 i) :
    ∃ ex e' H' g', X AP (.inl (some Hs.length) Yfg) ⟨e, Hs.set sid (some (gi, .cells (L0.flatMap fI) kd)), g, none⟩ = some (ex, ⟨e', H', g', none⟩) ∧ ex = .exit 2 ∧ (∃ (K : Heap) (L : List Int), H' = Hs.set sid (some (gi, .cells (L.flatMap fI) kd)) ++ K ∧ L.Perm L0 ∧ ∀ p q, p < q → q ≤ i → L.getD p 0 ≤ L.getD q 0) ∧ (e'.length = 49 ∧ getE e' 0 = .sl sid gi 1 0 n c ∧ getE e' 1 = .int .i64 0 ∧ getE e' 2 = .int .i64 n ∧ getE e' 6 = .int .i64 i) := by
  refine Zbx (fun k1 e H g => ∃ (j : Nat) (K : Heap) (L : List Int), k1 = j ∧ j ≤ i ∧ (e.length = 49 ∧ getE e 0 = .sl sid gi 1 0 n c ∧ getE e 1 = .int .i64 0 ∧ getE e 2 = .int .i64 n ∧ getE e 6 = .int .i64 i ∧ getE e 7 = .int .i64 j) ∧ H = Hs.set sid (some (gi, .cells (L.flatMap fI) kd)) ++ K ∧ L.Perm L0 ∧ Zlm L i j) _ ?_ i e _ g ⟨i, [], L0, rfl, Nat.le_refl _, h, (List.append_nil _).symm, List.Perm.refl _, hs⟩
  rintro k1 e H g ⟨j, K, L, hkj, hji, ⟨he, h0, h1, h2, h6, h7⟩, rfl, hp, hs⟩
  unfold Yfg
  subst hkj
  have hLl : L.length = n := by rw [hp.length_eq, hL0]
  have hG : getH (Hs.set sid (some (gi, .cells (L.flatMap fI) kd))) sid gi = some (.cells (L.flatMap fI) kd) := Zas _ hid
  have hss : ∀ x, (Hs.set sid (some (gi, .cells (L.flatMap fI) kd))).set sid x = Hs.set sid x := fun x => by rw [List.set_set]
  have hHl : (Hs.set sid (some (gi, .cells (L.flatMap fI) kd))).length = Hs.length := by rw [List.length_set]
  have hT : (Hs.set sid (some (gi, .cells (L.flatMap fI) kd)) ++ K).take Hs.length = Hs.set sid (some (gi, .cells (L.flatMap fI) kd)) := by
    rw [List.take_append_of_le_length (by rw [hHl]; exact Nat.le_refl _), List.take_of_length_le (by rw [hHl]; exact Nat.le_refl _)]
  generalize hHH : Hs.set sid (some (gi, .cells (L.flatMap fI) kd)) = HH at *
  have hidH : sid < HH.length := by omega
  by_cases hj : k1 = 0
  · subst hj
    simp (disch := first | exact dJ | fail) only [go_sem, Nat.reduceAdd, Nat.reduceMul, Nat.reduceSub, Nat.reduceLeDiff, Nat.reduceLT, Nat.reduceEqDiff, h0, h1, h2, h6, h7, he, hT, hG, Zar, Zan, Zaf, Zai, List.getD_cons_zero, Zam, Zao, Zap, Zah, Zaj, Zae, Zad, Zag]
    exact ⟨_, _, _, _, rfl, .inr ⟨by simp, rfl, ⟨_, L, by rw [hHH] <;> rfl, hp, Zmu hs (.inl rfl)⟩, gQ he, gQ h0, gQ h1, gQ h2, gQ h6⟩⟩
  · obtain ⟨m, rfl⟩ : ∃ m, k1 = m + 1 := ⟨k1 - 1, by omega⟩
    have w1 : IntKind.i64.wrap (((m + 1 : Nat) : Int) - 1) = (m : Int) := by rw [Zay (by omega) (by omega)]; omega
    have c75 := f75 (L.getD (m + 1) 0) (L.getD m 0)
    have p1 : (0 : Int) < ((m + 1 : Nat) : Int) := by omega
    by_cases hlt : L.getD (m + 1) 0 < L.getD m 0
    · have hfl : (L.flatMap fI).length = n := by rw [Zbn (f := fI)]; omega
      have hfl2 : ((L.set (m + 1) (L.getD m 0)).flatMap fI).length = n := by rw [Zbn (f := fI), List.length_set]; omega
      have hl2 : m < (L.set (m + 1) (L.getD m 0)).length := by rw [List.length_set]; omega
      simp (disch := first | exact dK | fail) only [go_sem, Nat.reduceAdd, Nat.reduceMul, Nat.reduceSub, Nat.reduceLeDiff, Nat.reduceLT, Nat.reduceEqDiff, h0, h1, h2, h6, h7, he, hT, hG, Zar, Zan, Zaf, Zai, List.getD_cons_zero, Zam, Zao, Zap, Zah, Zaj, Zae, Zad, Zag, w1, c75, Zzn, Zgu, hfl, hfl2, hss, List.set_set]
      refine ⟨_, _, _, _, rfl, .inl ⟨rfl, m, by omega, m, _, swp L (m + 1), rfl, by omega, ⟨gQ he, gQ h0, gQ h1, gQ h2, gQ h6, gQ he⟩, by rfl, (Ybw (by omega)).trans hp, Zue (by omega) hji (by omega) hs (by simpa using hlt)⟩⟩
    · simp (disch := first | exact dK | fail) only [go_sem, Nat.reduceAdd, Nat.reduceMul, Nat.reduceSub, Nat.reduceLeDiff, Nat.reduceLT, Nat.reduceEqDiff, h0, h1, h2, h6, h7, he, hT, hG, Zar, Zan, Zaf, Zai, List.getD_cons_zero, Zam, Zao, Zap, Zah, Zaj, Zae, Zad, Zag, w1, c75]
      exact ⟨_, _, _, _, rfl, .inr ⟨by simp, rfl, ⟨_, L, by rw [hHH] <;> rfl, hp, Zmu hs (.inr (by simpa using hlt))⟩, gQ he, gQ h0, gQ h1, gQ h2, gQ h6⟩⟩
theorem f86 {Hs : Heap} {sid gi n : Nat} {c : Option Nat} {kd : Kd} (hk : Zcs kd = true) (hid : sid < Hs.length) (hn : n ≤ 64) (hn1 : 1 ≤ n) {L0 : List Int} (hL0 : L0.length = n) (γ : Nat) :
    ∃ (γ' : Nat) (K : Heap) (L : List Int), Zdo AP (X AP) 86 [.sl sid gi 1 0 n c, .int .i64 0, .int .i64 n] (Hs.set sid (some (gi, .cells (L0.flatMap fI) kd))) γ = some (.tup [], Hs.set sid (some (gi, .cells (L.flatMap fI) kd)) ++ K, γ') ∧ L.Perm L0 ∧ L.Pairwise (· ≤ ·) := by
  obtain ⟨e, he, hg, hx⟩ := Zcu γ (Hs.set sid (some (gi, O.cells (L0.flatMap fI) kd))) AP86 (args := [.sl sid gi 1 0 n c, .int .i64 0, .int .i64 n]) rfl (by decide)
  have he : e.length = 49 := he
  have h0 : getE e 0 = .sl sid gi 1 0 n c := hg 0 (by simp only [List.length_cons]; omega)
  have h1 : getE e 1 = .int .i64 0 := hg 1 (by simp only [List.length_cons]; omega)
  have h2 : getE e 2 = .int .i64 n := hg 2 (by simp only [List.length_cons]; omega)
  rw [hx]; clear hx hg; unfold c86
  have hHl : (Hs.set sid (some (gi, .cells (L0.flatMap fI) kd))).length = Hs.length := by rw [List.length_set]
  have w0 : IntKind.i64.wrap ((0 : Int) + 1) = ((1 : Nat) : Int) := by decide
  simp (disch := first | exact dJ | fail) only [go_sem, Nat.reduceAdd, Nat.reduceMul, Nat.reduceSub, Nat.reduceLeDiff, Nat.reduceLT, Nat.reduceEqDiff, h0, h1, h2, he, w0, hHl]
  generalize hE : putE _ _ _ = E
  have hEl : E.length = 49 := by subst hE; simp (disch := first | exact dG | fail) only [Zab, Zaa, Zac, he]
  have p0 : getE E 0 = .sl sid gi 1 0 n c := by subst hE; exact gQ h0
  have p1 : getE E 1 = .int .i64 0 := by subst hE; exact gQ h1
  have p2 : getE E 2 = .int .i64 n := by subst hE; exact gQ h2
  have p6 : getE E 6 = .int .i64 (1 : Nat) := by subst hE; exact gQ he
  have key : ∃ ex e' H' g', X AP (.inl (some Hs.length) Ygz) ⟨E, Hs.set sid (some (gi, .cells (L0.flatMap fI) kd)), γ, none⟩ = some (ex, ⟨e', H', g', none⟩) ∧ ex = .exit 0 ∧ ∃ (K : Heap) (L : List Int), H' = Hs.set sid (some (gi, .cells (L.flatMap fI) kd)) ++ K ∧ L.Perm L0 ∧ Zlm L (n - 1) n := by
    refine Zbx (fun k1 e H g => ∃ (i : Nat) (K : Heap) (L : List Int), k1 + i = n ∧ 1 ≤ i ∧ (e.length = 49 ∧ getE e 0 = .sl sid gi 1 0 n c ∧ getE e 1 = .int .i64 0 ∧ getE e 2 = .int .i64 n ∧ getE e 6 = .int .i64 i) ∧ H = Hs.set sid (some (gi, .cells (L.flatMap fI) kd)) ++ K ∧ L.Perm L0 ∧ (∀ p q, p < q → q < i → L.getD p 0 ≤ L.getD q 0)) _ ?_ (n - 1) E _ γ ⟨1, [], L0, by omega, by omega, ⟨hEl, p0, p1, p2, p6⟩, (List.append_nil _).symm, List.Perm.refl _, by intros; omega⟩
    rintro k1 e H g ⟨i, K, L, hk1, hi1, ⟨he, h0, h1, h2, h6⟩, rfl, hp, hs⟩
    unfold Ygz
    have hLl : L.length = n := by rw [hp.length_eq, hL0]
    have w1 : IntKind.i64.wrap ((i : Int) + 1) = ((i + 1 : Nat) : Int) := by rw [Zay (by omega) (by omega)]; rfl
    have hHl : (Hs.set sid (some (gi, .cells (L.flatMap fI) kd))).length = Hs.length := by rw [List.length_set]
    have hT : (Hs.set sid (some (gi, .cells (L.flatMap fI) kd)) ++ K).take Hs.length = Hs.set sid (some (gi, .cells (L.flatMap fI) kd)) := by
      rw [List.take_append_of_le_length (by rw [hHl]; exact Nat.le_refl _), List.take_of_length_le (by rw [hHl]; exact Nat.le_refl _)]
    by_cases hi : i < n
    · simp (disch := first | exact dJ | fail) only [go_sem, Nat.reduceAdd, Nat.reduceMul, Nat.reduceSub, Nat.reduceLeDiff, Nat.reduceLT, Nat.reduceEqDiff, h0, h1, h2, h6, he, hT, w1, hHl]
      generalize hE : putE _ _ _ = E
      have hEl : E.length = 49 := by subst hE; simp (disch := first | exact dG | fail) only [Zab, Zaa, Zac, he]
      have p0 : getE E 0 = .sl sid gi 1 0 n c := by subst hE; exact gQ h0
      have p1 : getE E 1 = .int .i64 0 := by subst hE; exact gQ h1
      have p2 : getE E 2 = .int .i64 n := by subst hE; exact gQ h2
      have p6 : getE E 6 = .int .i64 i := by subst hE; exact gQ h6
      have p7 : getE E 7 = .int .i64 i := by subst hE; exact gZ he
      obtain ⟨ex, e1, H1, g1, hx, rfl, ⟨K1, L1, rfl, hp1, hs1⟩, he1, q0, q1, q2, q6⟩ := L86_2 (Hs := Hs) (c := c) (gi := gi) (g := g) hk hid hi hn hLl (fun p q h1 h2 h3 => hs p q h1 (by omega)) ⟨hEl, p0, p1, p2, p6, p7⟩
      rw [hx]
      simp (disch := first | exact dJ | fail) only [go_sem, Nat.reduceAdd, Nat.reduceMul, Nat.reduceSub, Nat.reduceLeDiff, Nat.reduceLT, Nat.reduceEqDiff, q0, q1, q2, q6, he1, w1]
      exact ⟨_, _, _, _, rfl, .inl ⟨rfl, k1 - 1, by omega, i + 1, K1, L1, by omega, by omega, ⟨gQ he1, gQ q0, gQ q1, gQ q2, gQ he1⟩, rfl, hp1.trans hp, fun p q h1 h2 => hs1 p q h1 (by omega)⟩⟩
    · simp (disch := first | exact dJ | fail) only [go_sem, Nat.reduceAdd, Nat.reduceMul, Nat.reduceSub, Nat.reduceLeDiff, Nat.reduceLT, Nat.reduceEqDiff, h0, h1, h2, h6, he, hT, w1, hHl]
      exact ⟨_, _, _, _, rfl, .inr ⟨by simp, rfl, [], L, by rw [List.append_nil], hp, fun p q h1 h2 h3 => hs p q h1 (by omega)⟩⟩
  obtain ⟨ex, e1, H1, g1, hx, rfl, K, L, rfl, hp, hs⟩ := key
  rw [hx]
  simp (disch := first | exact dJ | fail) only [go_sem, Nat.reduceAdd, Nat.reduceMul, Nat.reduceSub, Nat.reduceLeDiff, Nat.reduceLT, Nat.reduceEqDiff]
  have hLl : L.length = n := by rw [hp.length_eq, hL0]
  refine ⟨_, K, L, rfl, hp, ?_⟩
  rw [List.pairwise_iff_getElem]
  intro i j hi hj hij
  have := hs i j hij (by omega) (by omega)
  simpa [List.getD_eq_getElem?_getD, hi, hj] using this
end Go.AM

set_option linter.unusedVariables false
set_option linter.unusedSimpArgs false
namespace Go.AM
set_option maxRecDepth 100000
theorem r60 : ∀ n : Nat, n ≤ 12 → ∃ m : Int, Zaq AP (exec AP 60) false 60 [.int .u64 n] = some (.int .i64 m, none)
  | 0, _ => ⟨0, by kernel_rfl⟩
  | 1, _ => ⟨1, by kernel_rfl⟩
  | 2, _ => ⟨2, by kernel_rfl⟩
  | 3, _ => ⟨2, by kernel_rfl⟩
  | 4, _ => ⟨3, by kernel_rfl⟩
  | 5, _ => ⟨3, by kernel_rfl⟩
  | 6, _ => ⟨3, by kernel_rfl⟩
  | 7, _ => ⟨3, by kernel_rfl⟩
  | 8, _ => ⟨4, by kernel_rfl⟩
  | 9, _ => ⟨4, by kernel_rfl⟩
  | 10, _ => ⟨4, by kernel_rfl⟩
  | 11, _ => ⟨4, by kernel_rfl⟩
  | 12, _ => ⟨4, by kernel_rfl⟩
  | n + 13, h => absurd h (by omega)
theorem Ybh {H : Heap} {i gi : Nat} {o : O} (hg : getH H i gi = some o) : H.set i (some (gi, o)) = H := by
  have hi := Zbu hg
  unfold getH at hg
  apply List.ext_getElem?
  intro j
  by_cases hij : i = j
  · subst hij
    rw [List.getElem?_set_self hi]
    cases hH : H[i]? with
    | none => rw [hH] at hg; cases hg
    | some x =>
      rw [hH] at hg
      cases x with
      | none => cases hg
      | some x =>
        obtain ⟨g', o'⟩ := x
        simp only at hg
        split at hg
        · rename_i e; subst e; cases hg; rfl
        · cases hg
  · rw [List.getElem?_set_ne hij]
theorem f86' {H : Heap} {sid gi n : Nat} {c : Option Nat} {kd : Kd} {L0 : List Int} (hg : getH H sid gi = some (.cells (L0.flatMap fI) kd)) (hk : Zcs kd = true) (hn : n ≤ 64) (hn1 : 1 ≤ n) (hL0 : L0.length = n) (γ : Nat) :
    ∃ (γ' : Nat) (K : Heap) (L : List Int), Zdo AP (X AP) 86 [.sl sid gi 1 0 n c, .int .i64 0, .int .i64 n] H γ = some (.tup [], H.set sid (some (gi, .cells (L.flatMap fI) kd)) ++ K, γ') ∧ L.Perm L0 ∧ L.Pairwise (· ≤ ·) := by
  have := f86 (Hs := H) (sid := sid) (gi := gi) (n := n) (c := c) hk (Zbu hg) hn hn1 hL0 γ
  rw [Ybh hg] at this
  exact this
theorem f61 {H : Heap} {sid gi n : Nat} {c : Option Nat} {kd : Kd} {L0 : List Int} (hg : getH H sid gi = some (.cells (L0.flatMap fI) kd)) (hk : Zcs kd = true) (hn : n ≤ 12) (hn1 : 1 ≤ n) (hL0 : L0.length = n) (m : Int) (γ : Nat) :
    ∃ (γ' : Nat) (K : Heap) (L : List Int), Zdo AP (X AP) 61 [.sl sid gi 1 0 n c, .int .i64 0, .int .i64 n, .int .i64 m] H γ = some (.tup [], H.set sid (some (gi, .cells (L.flatMap fI) kd)) ++ K, γ') ∧ L.Perm L0 ∧ L.Pairwise (· ≤ ·) := by
  have hid := Zbu hg
  obtain ⟨e, he, hg, hx⟩ := Zcu γ H AP61 (args := [.sl sid gi 1 0 n c, .int .i64 0, .int .i64 n, .int .i64 m]) rfl (by decide)
  have he : e.length = 134 := he
  have h0 : getE e 0 = .sl sid gi 1 0 n c := hg 0 (by simp only [List.length_cons]; omega)
  have h1 : getE e 1 = .int .i64 0 := hg 1 (by simp only [List.length_cons]; omega)
  have h2 : getE e 2 = .int .i64 n := hg 2 (by simp only [List.length_cons]; omega)
  have h3 : getE e 3 = .int .i64 m := hg 3 (by simp only [List.length_cons]; omega)
  rw [hx]; clear hx hg; unfold c61
  obtain ⟨γ1, K1, L, c86, hp, hs⟩ := f86' (H := H ++ [none]) (c := c) (by rw [Zar _ hid]; exact hg) hk (by omega) hn1 hL0 (γ + 1)
  rw [Zgu _ hid, List.append_assoc] at c86
  have w1 : IntKind.i64.wrap ((n : Int) - 0) = n := by rw [Zay (by omega) (by omega)]; omega
  have h12 : (n : Int) ≤ 12 := by omega
  simp (disch := first | exact dJ | fail) only [go_sem, Nat.reduceAdd, Nat.reduceMul, Nat.reduceSub, Nat.reduceLeDiff, Nat.reduceLT, Nat.reduceEqDiff, h0, h1, h2, h3, he]
  rw [Ygf]
  unfold B61_1
  simp (disch := first | exact dJ | fail) only [go_sem, Nat.reduceAdd, Nat.reduceMul, Nat.reduceSub, Nat.reduceLeDiff, Nat.reduceLT, Nat.reduceEqDiff, h0, h1, h2, h3, he, w1, c86]
  exact ⟨_, _, L, rfl, hp, hs⟩
theorem f46 {H : Heap} {sid gi n : Nat} {c : Option Nat} {kd : Kd} {L0 : List Int} (hg : getH H sid gi = some (.cells (L0.flatMap fI) kd)) (hk : Zcs kd = true) (hn : n ≤ 12) (hn1 : 1 ≤ n) (hL0 : L0.length = n) (γ : Nat) :
    ∃ (γ' : Nat) (K : Heap) (L : List Int), Zdo AP (X AP) 46 [.sl sid gi 1 0 n c] H γ = some (.tup [], H.set sid (some (gi, .cells (L.flatMap fI) kd)) ++ K, γ') ∧ L.Perm L0 ∧ L.Pairwise (· ≤ ·) := by
  have hid := Zbu hg
  obtain ⟨m, r⟩ := r60 n hn
  have c60 := Zbo (Zet 60) r
  obtain ⟨e, he, hg, hx⟩ := Zcu γ H AP46 (args := [.sl sid gi 1 0 n c]) rfl (by decide)
  have he : e.length = 11 := he
  have h0 : getE e 0 = .sl sid gi 1 0 n c := hg 0 (by simp only [List.length_cons]; omega)
  rw [hx]; clear hx hg; unfold c46
  obtain ⟨γ1, K1, L, c61, hp, hs⟩ := f61 (H := H ++ [none, none]) (c := c) (by rw [Zar _ hid]; exact hg) hk hn hn1 hL0 m (γ + 2)
  rw [Zgu _ hid, List.append_assoc] at c61
  have w1 : IntKind.u64.wrap (n : Int) = n := by
    unfold IntKind.wrap
    show (if (false && _) = true then _ else (n : Int) % 18446744073709551616) = n
    simp only [Bool.false_and, Bool.false_eq_true, if_false]; omega
  simp (disch := first | exact dJ | fail) only [go_sem, Nat.reduceAdd, Nat.reduceMul, Nat.reduceSub, Nat.reduceLeDiff, Nat.reduceLT, Nat.reduceEqDiff, h0, he, w1, c60, c61]
  exact ⟨_, _, L, rfl, hp, hs⟩
/-- The consumer of a list's elements. -/
theorem f47 {l : List Int} {kl : SC} {pb gb : Nat} {yv : V} {C : List Int → Heap → Prop} (hll : l.length ≤ 64) (hb : ∀ ys H, C ys H → getH H pb gb = some (.cells [ints l kl] .fixed)) (hm : ∀ ys H K, C ys H → C ys (H ++ K))
    (hy : ∀ ys x zs H γ, l = ys ++ x :: zs → C ys H → ∃ H' γ', Zek AP (X AP) yv [.int .i64 x] H γ = some (.bool true, H', γ') ∧ C (ys ++ [x]) H') {H : Heap} (h0C : C [] H) (γ : Nat) :
    ∃ H' γ', Zdo AP (X AP) 47 [yv, .ptr pb gb 0] H γ = some (.tup [], H', γ') ∧ C l H' := by
  obtain ⟨e, he, hg, hx⟩ := Zcu γ H AP47 (args := [yv, .ptr pb gb 0]) rfl (by decide)
  have he : e.length = 16 := he
  have h0 : getE e 0 = yv := hg 0 (by simp only [List.length_cons]; omega)
  have h1 : getE e 1 = .ptr pb gb 0 := hg 1 (by simp only [List.length_cons]; omega)
  rw [hx]; clear hx hg; unfold c47
  have hb0 := hb _ _ h0C
  simp (disch := first | exact dJ | fail) only [go_sem, Nat.reduceAdd, Nat.reduceMul, Nat.reduceSub, Nat.reduceLeDiff, Nat.reduceLT, Nat.reduceEqDiff, h0, h1, he, hb0, Zan, Zaf, Zai, List.getD_cons_zero, Zam, Zao, Zap, Zah, Zaj, Zae, Zad, Zag]
  generalize hE : putE _ _ _ = E
  have hEl : E.length = 16 := by subst hE; simp (disch := first | exact dG | fail) only [Zab, Zaa, Zac, he]
  have p0 : getE E 0 = yv := by subst hE; exact gQ h0
  have p5 : getE E 5 = ints l kl := by subst hE; exact gQ he
  have p6 : getE E 6 = .int .i64 l.length := by subst hE; exact gQ he
  have p7 : getE E 7 = .int .i64 (0 : Nat) := by subst hE; exact gZ he
  have key : ∃ ex e' H' g', X AP (.inl none Yga) ⟨E, H, γ, none⟩ = some (ex, ⟨e', H', g', none⟩) ∧ ex = .exit 0 ∧ C l H' := by
    refine Zbx (fun k1 e H g => ∃ i : Nat, k1 + i = l.length ∧ (e.length = 16 ∧ getE e 0 = yv ∧ getE e 5 = ints l kl ∧ getE e 6 = .int .i64 l.length ∧ getE e 7 = .int .i64 i) ∧ C (l.take i) H) _ ?_ l.length E _ γ ⟨0, by omega, ⟨hEl, p0, p5, p6, p7⟩, by simpa using h0C⟩
    rintro k1 e H g ⟨i, hk1, ⟨he, h0, h5, h6, h7⟩, hC⟩
    unfold Yga
    have w1 : IntKind.i64.wrap ((i : Int) + 1) = ((i + 1 : Nat) : Int) := by rw [Zay (by omega) (by omega)]; rfl
    by_cases hi : i < l.length
    · have hsp : l = l.take i ++ l.getD i 0 :: l.drop (i + 1) := by
        conv => lhs; rw [← List.take_append_drop i l, List.drop_eq_getElem_cons hi]
        simp [List.getD_eq_getElem?_getD, hi]
      have htk : l.take i ++ [l.getD i 0] = l.take (i + 1) := by
        rw [List.take_add_one]; simp [List.getD_eq_getElem?_getD, hi]
      obtain ⟨H', γ', cy, hC'⟩ := hy _ _ _ _ (g + 1) hsp (hm _ _ [none] hC)
      rw [htk] at hC'
      clear hsp htk hC
      simp (disch := first | exact dJ | fail) only [go_sem, Nat.reduceAdd, Nat.reduceMul, Nat.reduceSub, Nat.reduceLeDiff, Nat.reduceLT, Nat.reduceEqDiff, h0, h5, h6, h7, he, w1, Zan, Zaf, Zai, List.getD_cons_zero, Zam, Zao, Zap, Zah, Zaj, Zae, Zad, Zag, cy]
      exact ⟨_, _, _, _, rfl, .inl ⟨rfl, k1 - 1, by omega, i + 1, by omega, ⟨gQ he, gQ h0, gQ h5, gQ h6, gQ he⟩, hC'⟩⟩
    · simp (disch := first | exact dJ | fail) only [go_sem, Nat.reduceAdd, Nat.reduceMul, Nat.reduceSub, Nat.reduceLeDiff, Nat.reduceLT, Nat.reduceEqDiff, h0, h5, h6, h7, he, w1, Zan, Zaf, Zai, List.getD_cons_zero, Zam, Zao, Zap, Zah, Zaj, Zae, Zad, Zag]
      rw [List.take_of_length_le (by omega)] at hC
      exact ⟨_, _, _, _, rfl, .inr ⟨by simp, rfl, hC⟩⟩
  obtain ⟨ex, e1, H1, g1, hx, rfl, hC⟩ := key
  rw [hx]
  simp (disch := first | exact dJ | fail) only [go_sem, Nat.reduceAdd, Nat.reduceMul, Nat.reduceSub, Nat.reduceLeDiff, Nat.reduceLT, Nat.reduceEqDiff]
  exact ⟨_, _, rfl, hC⟩
end Go.AM

set_option linter.unusedVariables false
set_option linter.unusedSimpArgs false
namespace Go.AM
theorem f24 (l : List Int) (kl : SC) (H : Heap) (γ : Nat) : Zdo AP (X AP) 24 [ints l kl] H γ = some (.fn 47 [] [.ptr H.length γ 0], H ++ [some (γ, .cells [ints l kl] .fixed)], γ + 1) := by
  obtain ⟨e, he, hg, hx⟩ := Zcu γ H AP24 (args := [ints l kl]) rfl (by decide)
  have he : e.length = 4 := he
  have h0 : getE e 0 = ints l kl := hg 0 (by simp only [List.length_cons]; omega)
  rw [hx]; clear hx hg; unfold c24
  simp (disch := first | exact dJ | fail) only [go_sem, Nat.reduceAdd, Nat.reduceMul, Nat.reduceSub, Nat.reduceLeDiff, Nat.reduceLT, Nat.reduceEqDiff, h0, he, Zbv]
structure C59 (H0 : Heap) (b g1 g2 : Nat) (e0 : List V) (ys : List Int) (H : Heap) : Prop where
  tk : H.take b = H0
  len : b + 1 < H.length
  lp : getH H (b + 1) g2 = some (.loop .ready none true e0 [7] Zhp Zgn)
  bx : ∃ v, getH H b g1 = some (.cells [v] .fixed) ∧ (ys = [] ∧ v = .nils ∨ ∃ i gi, b + 2 ≤ i ∧ v = .sl i gi 1 0 ys.length none ∧ getH H i gi = some (grO fI ys) ∧ ys ≠ [])
theorem C59.mono {H0 : Heap} {b g1 g2 : Nat} {e0 : List V} {ys : List Int} {H : Heap} (K : Heap) (h : C59 H0 b g1 g2 e0 ys H) : C59 H0 b g1 g2 e0 ys (H ++ K) := by
  obtain ⟨h1, h2, h3, v, h4, h5⟩ := h
  refine ⟨by rw [List.take_append_of_le_length (by omega)]; exact h1, by simp; omega, by rw [Zar _ h2]; exact h3, v, by rw [Zar _ (by omega)]; exact h4, ?_⟩
  rcases h5 with h5 | ⟨i, gi, q1, q2, q3, q4⟩
  · exact .inl h5
  · exact .inr ⟨i, gi, q1, q2, by rw [Zar _ (Zbu q3)]; exact q3, q4⟩
theorem Y59 {H0 : Heap} {b g1 g2 : Nat} {e0 : List V} (hb : H0.length = b) (h : e0.length = 13 ∧ getE e0 2 = .ptr b g1 0) {ys : List Int} {x : Int} (hys : ys.length ≤ 64) {H : Heap} (γ : Nat) (hC : C59 H0 b g1 g2 e0 ys H) :
    ∃ H' γ', Zek AP (X AP) (.yld (b + 1) g2) [.int .i64 x] H γ = some (.bool true, H', γ') ∧ C59 H0 b g1 g2 e0 (ys ++ [x]) H' := by
  obtain ⟨he, h2⟩ := h
  obtain ⟨q1, q2, q3, v, q4, q5⟩ := hC
  have h1 : X AP Zhp ⟨putL e0 [7] [.int .i64 x], H, γ, some (b + 1, g2)⟩ = some (.normal, ⟨putE (putE e0 7 (.int .i64 x)) 5 (.int .i64 x), H, γ, some (b + 1, g2)⟩) := by
    unfold Zhp putL putL
    simp (disch := first | exact dJ | fail) only [go_sem, Nat.reduceAdd, Nat.reduceMul, Nat.reduceSub, Nat.reduceLeDiff, Nat.reduceLT, Nat.reduceEqDiff, he, h2]
  generalize hE : putE (putE e0 7 (.int .i64 x)) 5 (.int .i64 x) = E at *
  have hEl : E.length = 13 := by subst hE; simp (disch := first | exact dG | fail) only [Zab, Zaa, Zac, he]
  have p2 : getE E 2 = .ptr b g1 0 := by subst hE; exact gQ h2
  have p5 : getE E 5 = .int .i64 x := by subst hE; exact gQ he
  clear hE
  have hbl : b < H.length := by omega
  have hne : b + 1 ≠ b := by omega
  have hH2 : ∃ (e2 : List V) (H2 : Heap) (γ2 : Nat) (i gi : Nat), X AP Zgn ⟨E, H.set (b + 1) (some (g2, .loop .busy none true e0 [7] Zhp Zgn)), γ, some (b + 1, g2)⟩ = some (.normal, ⟨e2, H2, γ2, some (b + 1, g2)⟩) ∧ H.length ≤ H2.length ∧ H2.take b = H0 ∧ getH H2 (b + 1) g2 = some (.loop .busy none true e0 [7] Zhp Zgn) ∧ getH H2 b g1 = some (.cells [.sl i gi 1 0 (ys.length + 1) none] .fixed) ∧ b + 2 ≤ i ∧ getH H2 i gi = some (grO fI (ys ++ [x])) := by
    have g1' : getH (H.set (b + 1) (some (g2, .loop .busy none true e0 [7] Zhp Zgn))) b g1 = some (.cells [v] .fixed) := by rw [Zal _ hne]; exact q4
    have g2' : getH (H.set (b + 1) (some (g2, .loop .busy none true e0 [7] Zhp Zgn))) (b + 1) g2 = some (.loop .busy none true e0 [7] Zhp Zgn) := Zas _ q2
    have l' : (H.set (b + 1) (some (g2, .loop .busy none true e0 [7] Zhp Zgn))).length = H.length := List.length_set
    have t' : (H.set (b + 1) (some (g2, .loop .busy none true e0 [7] Zhp Zgn))).take b = H0 := by rw [Zbb _ (by omega)]; exact q1
    have q5' : ys = [] ∧ v = .nils ∨ ∃ i gi, b + 2 ≤ i ∧ v = .sl i gi 1 0 ys.length none ∧ getH (H.set (b + 1) (some (g2, .loop .busy none true e0 [7] Zhp Zgn))) i gi = some (grO fI ys) ∧ ys ≠ [] := by
      rcases q5 with q | ⟨i, gi, u1, u2, u3, u4⟩
      · exact .inl q
      · exact .inr ⟨i, gi, u1, u2, by rw [Zal _ (by omega)]; exact u3, u4⟩
    generalize H.set (b + 1) (some (g2, .loop .busy none true e0 [7] Zhp Zgn)) = HH at *
    rw [← l'] at q2 hbl ⊢
    clear q1 q3 q4 q5 l'
    have hng : ∀ (K : Heap) (j : Nat) (x : Option (Nat × O)), (HH ++ K).set (HH.length + j) x = HH ++ K.set j x := fun K j x => Zdq HH K j x
    rcases q5' with ⟨rfl, rfl⟩ | ⟨i, gi, u1, rfl, u3, u4⟩
    · have a0 : ∀ id g j H kd, id < H.length → appN 8 id g 1 j H (some (.cells [.int .i64 x] kd)) = some (.sl id g 1 0 1 none, H.set id (some (g, grO fI [x])), [j], [id]) := fun id g j H kd hi => Zyg (f := fI) 8 j x kd rfl (by decide) (by decide) hi
      unfold Zgn
      simp (disch := first | exact dJ | fail) only [go_sem, Nat.reduceAdd, Nat.reduceMul, Nat.reduceSub, Nat.reduceLeDiff, Nat.reduceLT, Nat.reduceEqDiff, hEl, p2, p5, g1', g2', Zan, Zaf, Zai, List.getD_cons_zero, Zam, Zao, Zap, Zah, Zaj, Zae, Zad, Zag, Ycu, a0, Zbv, hng, Zbm, Zbr, Zgu]
      refine ⟨_, _, _, HH.length + 1, γ + 1, rfl, ?_, ?_, ?_, ?_, by omega, ?_⟩
      · simp
      · rw [List.take_append_of_le_length (by rw [List.length_set]; omega), Zbb _ (Nat.le_refl _)]; exact t'
      · rw [Zar _ (by rw [List.length_set]; exact q2), Zal _ (by omega)]; exact g2'
      · rw [Zar _ (by rw [List.length_set]; exact hbl)]; exact Zas _ hbl
      · have key : ∀ Z : Heap, Z.length = HH.length → getH (Z ++ [some (γ, O.cells [V.int IntKind.i64 x] Kd.fixed), some (γ + 1, grO fI [x])]) (HH.length + 1) (γ + 1) = some (grO fI [x]) := fun Z hZ => by rw [← hZ, Zbr]; simp [getH]
        exact key _ List.length_set
    · have hil := Zbu u3
      have hgs : ∀ o, getH (HH.set i o) b g1 = getH HH b g1 := fun o => Zal _ (by omega)
      unfold Zgn
      simp (disch := first | exact dJ | fail) only [go_sem, Nat.reduceAdd, Nat.reduceMul, Nat.reduceSub, Nat.reduceLeDiff, Nat.reduceLT, Nat.reduceEqDiff, hEl, p2, p5, g1', g2', u3, Zan, Zaf, Zai, List.getD_cons_zero, Zam, Zao, Zap, Zah, Zaj, Zae, Zad, Zag, Zag, Zbv, hng, Zbm, Zbr, Zgu, hgs]
      refine ⟨_, _, _, i, γ + 1, rfl, ?_, ?_, ?_, ?_, u1, ?_⟩
      · simp
      · rw [List.take_append_of_le_length (by rw [List.length_set, List.length_set]; omega), Zbb _ (Nat.le_refl _), Zbb _ (by omega)]; exact t'
      · rw [Zar _ (by rw [List.length_set, List.length_set]; exact q2), Zal _ (by omega), Zal _ (by omega)]; exact g2'
      · rw [Zar _ (by rw [List.length_set, List.length_set]; exact hbl)]; exact Zas _ (by rw [List.length_set]; exact hbl)
      · rw [Zar _ (by rw [List.length_set, List.length_set]; exact hil), Zal _ (by omega)]; exact Zas _ hil
  obtain ⟨e2, H2, γ2, i, gi, hx2, z1, z2, z3, z4, z5, z6⟩ := hH2
  have h3 := Zkz (P := AP) (id := b + 1) (g := g2) (args := [.int .i64 x]) (ps := [7]) (keep := true) (p0 := none) (env := e0) (asg := Zhp) (body := Zgn) q3 rfl h1 q3 hx2 z3
  rw [h3]
  simp only [if_true]
  refine ⟨_, _, rfl, ⟨?_, ?_, ?_, .sl i gi 1 0 (ys ++ [x]).length none, ?_, .inr ⟨i, gi, z5, rfl, ?_, by simp⟩⟩⟩
  · rw [Zbb _ (by omega)]; exact z2
  · rw [List.length_set]; omega
  · exact Zas _ (by omega)
  · rw [Zal _ hne, z4]; simp
  · rw [Zal _ (by omega)]; exact z6
theorem f59 {l : List Int} {kl : SC} (hne : l ≠ []) (hl : l.length ≤ 64) {H : Heap} {pb gb : Nat} (hg : getH H pb gb = some (.cells [ints l kl] .fixed)) (γ : Nat) :
    ∃ H' γ' i gi, Zdo AP (X AP) 59 [.nils, .fn 47 [] [.ptr pb gb 0]] H γ = some (.sl i gi 1 0 l.length none, H', γ') ∧ getH H' i gi = some (grO fI l) ∧ H'.take H.length = H ∧ H.length ≤ i := by
  have hp := Zbu hg
  obtain ⟨e, he, hg, hx⟩ := Zcu γ H AP59 (args := [.nils, .fn 47 [] [.ptr pb gb 0]]) rfl (by decide)
  have he : e.length = 13 := he
  have h0 : getE e 0 = .nils := hg 0 (by simp only [List.length_cons]; omega)
  have h1 : getE e 1 = .fn 47 [] [.ptr pb gb 0] := hg 1 (by simp only [List.length_cons]; omega)
  rw [hx]; clear hx hg; unfold c59
  simp (disch := first | exact dJ | fail) only [go_sem, Nat.reduceAdd, Nat.reduceMul, Nat.reduceSub, Nat.reduceLeDiff, Nat.reduceLT, Nat.reduceEqDiff, h0, h1, he, Zbv]
  generalize hE : putE _ _ _ = E
  have hEl : E.length = 13 := by subst hE; simp (disch := first | exact dG | fail) only [Zab, Zaa, Zac, he]
  have p1 : getE E 1 = .fn 47 [] [.ptr pb gb 0] := by subst hE; exact gQ h1
  have p2 : getE E 2 = .ptr H.length γ 0 := by subst hE; exact gQ he
  have p6 : getE E 6 = .fn 47 [] [.ptr pb gb 0] := by subst hE; exact gQ h1
  have hbox : ∀ x, getH (H ++ [some (γ, .cells [.nils] .fixed), x]) H.length γ = some (.cells [.nils] .fixed) := fun x => by rw [Zbm]; simp [getH]
  obtain ⟨H', γ', cf, hC⟩ := f47 (l := l) (kl := kl) (pb := pb) (gb := gb) (yv := .yld (H.length + 1) (γ + 1)) (C := C59 H H.length γ (γ + 1) E) hl
    (fun ys H1 hC => by have := hC.tk; have h2 := Ziu (H := H1) (g := gb) hp; rw [this] at h2; rw [← h2]; exact hg)
    (fun ys H1 K hC => hC.mono K)
    (fun ys x zs H1 γ1 hs hC => Y59 rfl ⟨hEl, p2⟩ (by rw [hs] at hl; simp at hl; omega) γ1 hC)
    (H := H ++ [some (γ, .cells [.nils] .fixed), some (γ + 1, .loop .ready none true E [7] Zhp Zgn)])
    ⟨by simp, by simp, by rw [Zbr]; simp [getH], .nils, hbox _, .inl ⟨rfl, rfl⟩⟩ (γ + 1 + 1)
  have hl1 : (H ++ [some (γ, O.cells [V.nils] .fixed)]).length = H.length + 1 := by simp
  have hR := Zwx (P := AP) (keep := true) (f := .t 6) (ps := [7]) (asg := Zhp) (body := Zgn) (e := E) (H := H ++ [some (γ, .cells [.nils] .fixed)]) (γ := γ + 1) (k := 47) (a := []) (b := [.ptr pb gb 0]) (v := .tup []) (H2 := H') (γ2 := γ') p6
    (by rw [hl1, show ∀ a b : Option (Nat × O), (H ++ [a]) ++ [b] = H ++ [a, b] from fun a b => by simp]; exact cf) (by rw [hl1]; exact hC.lp)
  rw [hl1] at hR
  obtain ⟨q1, q2, q3, v, q4, q5⟩ := hC
  rcases q5 with ⟨hn, _⟩ | ⟨i, gi, u1, rfl, u3, u4⟩
  · exact absurd hn hne
  have g1 : getH (H'.set (H.length + 1) none) H.length γ = some (.cells [.sl i gi 1 0 l.length none] .fixed) := by rw [Zal _ (by omega)]; exact q4
  rw [hR]
  simp (disch := first | exact dJ | fail) only [go_sem, Nat.reduceAdd, Nat.reduceMul, Nat.reduceSub, Nat.reduceLeDiff, Nat.reduceLT, Nat.reduceEqDiff, hEl, p2, g1]
  refine ⟨_, _, i, gi, rfl, ?_, ?_, by omega⟩
  · rw [Zal _ (by omega)]; exact u3
  · rw [Zbb _ (by omega)]; exact q1
theorem f45 {l : List Int} {kl : SC} (hne : l ≠ []) (hl : l.length ≤ 64) {H : Heap} {pb gb : Nat} (hg : getH H pb gb = some (.cells [ints l kl] .fixed)) (γ : Nat) :
    ∃ H' γ' i gi, Zdo AP (X AP) 45 [.fn 47 [] [.ptr pb gb 0]] H γ = some (.sl i gi 1 0 l.length none, H', γ') ∧ getH H' i gi = some (grO fI l) ∧ H'.take H.length = H ∧ H.length ≤ i := by
  have hp := Zbu hg
  obtain ⟨e, he, hg, hx⟩ := Zcu γ H AP45 (args := [.fn 47 [] [.ptr pb gb 0]]) rfl (by decide)
  have he : e.length = 5 := he
  have h0 : getE e 0 = .fn 47 [] [.ptr pb gb 0] := hg 0 (by simp only [List.length_cons]; omega)
  rw [hx]; clear hx hg; unfold c45
  obtain ⟨H', γ', i, gi, cf, q1, q2, q3⟩ := f59 hne hl (H := H ++ [none]) (by rw [Zar _ hp]; exact hg) (γ + 1)
  simp (disch := first | exact dJ | fail) only [go_sem, Nat.reduceAdd, Nat.reduceMul, Nat.reduceSub, Nat.reduceLeDiff, Nat.reduceLT, Nat.reduceEqDiff, h0, he, cf]
  refine ⟨_, _, i, gi, rfl, q1, ?_, by simp at q3; omega⟩
  have := congrArg (List.take H.length) q2
  rw [List.take_take] at this
  simpa using this
theorem f25 {l : List Int} {kl : SC} (hne : l ≠ []) (hl : l.length ≤ 12) {H : Heap} {pb gb : Nat} (hg : getH H pb gb = some (.cells [ints l kl] .fixed)) (γ : Nat) :
    ∃ H' γ' i gi L, Zdo AP (X AP) 25 [.fn 47 [] [.ptr pb gb 0]] H γ = some (.sl i gi 1 0 l.length none, H', γ') ∧ getH H' i gi = some (grO fI L) ∧ L.Perm l ∧ L.Pairwise (· ≤ ·) ∧ H'.take H.length = H ∧ H.length ≤ i := by
  have hp := Zbu hg
  have hl1 : 1 ≤ l.length := by cases l with
    | nil => exact absurd rfl hne
    | cons a t => simp
  obtain ⟨e, he, hg, hx⟩ := Zcu γ H AP25 (args := [.fn 47 [] [.ptr pb gb 0]]) rfl (by decide)
  have he : e.length = 9 := he
  have h0 : getE e 0 = .fn 47 [] [.ptr pb gb 0] := hg 0 (by simp only [List.length_cons]; omega)
  rw [hx]; clear hx hg; unfold c25
  obtain ⟨H1, γ1, i, gi, cf, q1, q2, q3⟩ := f45 hne (by omega) (H := H ++ [none]) (by rw [Zar _ hp]; exact hg) (γ + 1)
  have hi := Zbu q1
  have hgr : grO fI l = .cells (l.flatMap fI) .loose := by cases l with
    | nil => exact absurd rfl hne
    | cons a t => rfl
  rw [hgr] at q1
  obtain ⟨γ2, K, L, cs, hp1, hs1⟩ := f46 (H := H1 ++ [none]) (c := none) (by rw [Zar _ hi]; exact q1) rfl hl hl1 rfl (γ1 + 1)
  rw [Zgu _ hi, List.append_assoc] at cs
  simp (disch := first | exact dJ | fail) only [go_sem, Nat.reduceAdd, Nat.reduceMul, Nat.reduceSub, Nat.reduceLeDiff, Nat.reduceLT, Nat.reduceEqDiff, h0, he, cf, cs]
  refine ⟨_, _, i, gi, L, rfl, ?_, hp1, hs1, ?_, by simp at q3; omega⟩
  · rw [Zar _ (by rw [List.length_set]; exact hi), Zas _ hi]
    cases L with
    | nil => have := hp1.length_eq; simp at this; omega
    | cons a t => rfl
  · have h1 : H.length < H1.length := by
      have := congrArg List.length q2
      simp at this q3; omega
    rw [List.take_append_of_le_length (by rw [List.length_set]; omega), Zbb _ (by simp at q3; omega)]
    have := congrArg (List.take H.length) q2
    rw [List.take_take] at this
    simpa using this
end Go.AM
