/- WalksIsomorphic: what is asked of the answer. -/
import Derived.Test.YteooegmokbbeoaaGauMh
set_option linter.unusedVariables false
set_option linter.unusedSimpArgs false
namespace Go.AM
section
variable {P : Zce} {own : List (Nat × Nat)} {id g : Nat} {H : Heap}
theorem Yao (sz len : Nat) (x y : Opd) (kd : IntKind) (i gi off : Nat) (z : Int) (h0 : 0 ≤ z) (h : z < len) : opR P own id g (.iap sz len x y) [.ptr i gi off, .int kd z] H = some (.ptr i gi (off + z.toNat * sz), H, [], []) := by
  have h2 : (0 : Int) ≤ z ∧ z < len := ⟨h0, h⟩
  unfold opR Zaz
  simp only [h2, and_self, if_true, runP]
end
section
variable {ins outs insb outsb : Nat} {rows rowsb : List (List (Int × Int))}
theorem L83_2 {q q' : SC} (hm : OKM ins outs rows) (hmb : OKM insb outsb rowsb) {ra : List (Nat × Word)} (hI : FInv rows ins (0 : Nat) [] ra) (hi : ins = insb) {LL : List Int} (hLl : LL.length = rows.length) (hL : ∀ s, s < rows.length → LL.getD s 0 = match lk ra s with | none => -1 | some w => aft rowsb (0 : Nat) w)
    {n : Nat} (hn : n = rows.length) {H0 : Heap} (h6 : getH H0 6 6 = some (oM q q' insb outsb rowsb)) {e : List V} {g : Nat} (h : e.length = 146 ∧ getE e 8 = .ptr 6 6 0 ∧ getE e 13 = ints LL (.c (some n)) ∧ getE e 17 = enS fO 1 (visL n ra) (.c (some n)) ∧ getE e 18 = enS fB 1 (visB n ra) (.c (some n)) ∧ getE e 19 = .int .i64 (0 : Nat)) :
    ∃ ex e' H' g', X AP (.inl (some H0.length) Ygr) ⟨e, H0, g, none⟩ = some (ex, ⟨e', H', g', none⟩) ∧ ex = .exit 2 ∧ e'.length = 146 := by
  have hn2 := hm.n2
  have l1 := Zcq n ra
  have l2 := Zcr n ra
  refine Zbx (fun k1 e H g => ∃ (s : Nat) (K : Heap), k1 + s = n ∧ (e.length = 146 ∧ getE e 8 = .ptr 6 6 0 ∧ getE e 13 = ints LL (.c (some n)) ∧ getE e 17 = enS fO 1 (visL n ra) (.c (some n)) ∧ getE e 18 = enS fB 1 (visB n ra) (.c (some n)) ∧ getE e 19 = .int .i64 s) ∧ H = H0 ++ K) _ ?_ n e _ g ⟨0, [], by omega, h, by simp⟩
  rintro k1 e H g ⟨s, K, hk, ⟨he, h8, h13, h17, h18, h19⟩, rfl⟩
  unfold Ygr
  have w1 : IntKind.i64.wrap ((s : Int) + 1) = ((s + 1 : Nat) : Int) := by rw [Zay (by omega) (by omega)]; rfl
  have hT : (H0 ++ K).take H0.length = H0 := by rw [List.take_append_of_le_length (Nat.le_refl _), List.take_of_length_le (Nat.le_refl _)]
  by_cases hlt : s < n
  · have g1 := Zdt (vis := ra) hlt
    have g2 := Zes (vis := ra) hlt
    have hLs := hL s (by omega)
    cases hlk : lk ra s with
    | none =>
      rw [hlk] at g1 g2 hLs
      simp only [Option.isSome_none] at g2
      simp only at hLs
      simp (disch := first | exact dJ | fail) only [go_sem, Nat.reduceAdd, Nat.reduceMul, Nat.reduceSub, Nat.reduceLeDiff, Nat.reduceLT, Nat.reduceEqDiff, h8, h13, h17, h18, h19, he, hT, w1, Zan, Zaf, Zai, List.getD_cons_zero, Zam, Zao, Zap, Zah, Zaj, Zae, Zad, Zag, Zeq, g2, l2, hLs]
      exact ⟨_, _, _, _, rfl, .inl ⟨rfl, k1 - 1, by omega, s + 1, [], by omega, ⟨gQ he, gQ h8, gQ h13, gQ h17, gQ h18, gQ he⟩, by simp⟩⟩
    | some w =>
      rw [hlk] at g1 g2 hLs
      simp only [Option.isSome_some] at g2
      simp only at hLs
      have hw := Yct hI hlk
      rw [hi] at hw
      have c21 := f21 (k := q) (k' := q') (outs := outsb) hmb w (kdW w) (0 : Nat) ⟨by omega, by have := hmb.n1; omega⟩ hw
      rw [← hLs, Int.natCast_zero] at c21
      have e1 : encO (some w) = ints w (kdW w) := rfl
      have h6' : ∀ K, getH (H0 ++ K) 6 6 = some (oM q q' insb outsb rowsb) := fun K => (Zar _ (Zbu h6)).trans h6
      clear hLs
      simp (disch := first | exact dJ | fail) only [go_sem, Nat.reduceAdd, Nat.reduceMul, Nat.reduceSub, Nat.reduceLeDiff, Nat.reduceLT, Nat.reduceEqDiff, h8, h13, h17, h18, h19, he, hT, w1, Zan, Zaf, Zai, List.getD_cons_zero, Zam, Zao, Zap, Zah, Zaj, Zae, Zad, Zag, Zeq, Zqq, g1, g2, l1, l2, h6', h6, e1, c21]
      exact ⟨_, _, _, _, rfl, .inl ⟨rfl, k1 - 1, by omega, s + 1, _, by omega, ⟨gQ he, gQ h8, gQ h13, gQ h17, gQ h18, gQ he⟩, rfl⟩⟩
  · simp (disch := first | exact dJ | fail) only [go_sem, Nat.reduceAdd, Nat.reduceMul, Nat.reduceSub, Nat.reduceLeDiff, Nat.reduceLT, Nat.reduceEqDiff, h8, h13, h17, h18, h19, he, hT, w1, Zan, Zaf, Zai, List.getD_cons_zero, Zam, Zao, Zap, Zah, Zaj, Zae, Zad, Zag]
    exact ⟨_, _, _, _, rfl, .inr ⟨by simp, rfl, (gQ he)⟩⟩
end
def T83 : AC := sq2 (sq2 (sq2 c83.body))
theorem t83 {insa outsa insb outsb : Nat} {rowsa rowsb : List (List (Int × Int))} {q q' : SC} (hm : OKM insa outsa rowsa) (hmb : OKM insb outsb rowsb) (hn6 : rowsa.length ≤ 6) (hnb6 : rowsb.length ≤ 6) {e : List V} (he : e.length = 146) (h7 : getE e 7 = .ptr 5 5 0) (h8 : getE e 8 = .ptr 6 6 0) {H : Heap} (g5 : getH H 5 5 = some (oM .n .n insa outsa rowsa)) (g6 : getH H 6 6 = some (oM q q' insb outsb rowsb)) (γ : Nat) :
    finX [.tmp 6] (X AP T83 ⟨e, H, γ, none⟩) = some (.bool true, none) := by
  have hn1 := hm.n1
  have hb1 := hmb.n1
  obtain ⟨ra, hF, hI⟩ := Fifo.run (ins := insa) hm (fr := (0 : Nat)) ⟨by omega, by omega⟩
  obtain ⟨rb, hFb, hIb⟩ := Fifo.run (ins := insb) hmb (fr := (0 : Nat)) ⟨by omega, by omega⟩
  have hra : ra.length ≤ 6 := by have := hI.num; omega
  have hrb : rb.length ≤ 6 := by have := hIb.num; omega
  have hCa := Zfd hm hF hI
  have hCb := Zfd hmb hFb hIb
  have hola := Zdu ra
  have holb := Zdu rb
  have ca := f23 (k := .n) (k' := .n) (outs := outsa) hm (by omega) hF
  have cb := f23 (k := q) (k' := q') (outs := outsb) hmb (by omega) hFb
  have cc := f32 (k := .n) (k' := .n) hm (l := ordR ra) (kl := .n) (by omega) hCa.ne hCa.rng
  have cd := f32 (k := q) (k' := q') hmb (l := ordR rb) (kl := .n) (by omega) hCb.ne hCb.rng
  rw [Zkl hm hCa] at cc
  rw [Zkl hmb hCb] at cd
  have oka := Zfq hm hCa (by omega)
  have okb := Zfq hmb hCb (by omega)
  have c12a := Zlv (k := .n) (k' := .n) hm hF hI (by omega)
  have c12b := Zlv (k := q) (k' := q') hmb hFb hIb (by omega)
  have c17 := f17 (k := .n) (k' := .n) (q := .n) (q' := .n) (i1 := insa) (i2 := insb) (o1 := outsa) (o2 := outsb) (r1 := Zbs rowsa insa (ordR ra)) (r2 := Zbs rowsb insb (ordR rb)) (by rw [Zcx]; omega) (fun s hs => by rw [oka.len s hs]; have := hm.i2; omega)
  have c4 := f4 (k := .n) (k' := .n) (outs := outsa) hm hF
  have c30 := f30
  have g5' : ∀ K, getH (H ++ K) 5 5 = some (oM .n .n insa outsa rowsa) := fun K => (Zar _ (Zbu g5)).trans g5
  have g6' : ∀ K, getH (H ++ K) 6 6 = some (oM q q' insb outsb rowsb) := fun K => (Zar _ (Zbu g6)).trans g6
  unfold T83 c83
  simp only [sq2]
  by_cases hs : insa = insb ∧ outsa = outsb ∧ Zbs rowsa insa (ordR ra) = Zbs rowsb insb (ordR rb)
  · have c29 := Yfu (k := .n) (k' := .n) (q := q) (q' := q') hm hmb hn6 oka okb (by omega) (by
      have := congrArg List.length hs.2.2
      rw [Zcx, Zcx] at this; omega) hCa.rng ca cb cc cd hs
    rw [decide_eq_true hs] at c17
    have hw := Zug hm hmb hF hI hFb hIb (by omega) (by omega) hs.1 hs.2.2
    have hLL := fun s hs => Zzg hm hmb hF hI hFb hIb hw (s := s) hs
    have hLl := Zij rowsa.length (ordR ra) (ordR rb) (ordR ra).length
    generalize isoL rowsa.length (ordR ra) (ordR rb) (ordR ra).length = LL at *
    have hcap : capV (ints LL (.c (some rowsa.length))) = some (.int .i64 rowsa.length) := rfl
    have l1 := Zcq rowsa.length ra
    have hi := hs.1
    clear hs hw
    generalize Zbs rowsa insa (ordR ra) = PA at *
    generalize Zbs rowsb insb (ordR rb) = PB at *
    clear oka okb cc cd hCa hCb ca cb
    simp (disch := first | exact dK | fail) only [go_sem, Nat.reduceAdd, Nat.reduceMul, Nat.reduceSub, Nat.reduceLeDiff, Nat.reduceLT, Nat.reduceEqDiff, he, h7, h8, Zan, Zaf, Zai, List.getD_cons_zero, Zam, Zao, Zap, Zah, Zaj, Zae, Zad, Zag, g5, g6, g5', g6', c29, c12a, c12b, c17, c4, Zbc, List.append_assoc, hcap, l1, hLl]
    generalize hE : putE _ _ _ = E
    have hEl : E.length = 146 := by subst hE; simp (disch := first | exact dG | fail) only [Zab, Zaa, Zac, he]
    have p8 : getE E 8 = .ptr 6 6 0 := by subst hE; exact gQ h8
    have p13 : getE E 13 = ints LL (.c (some rowsa.length)) := by subst hE; exact gQ he
    have p17 : getE E 17 = enS fO 1 (visL rowsa.length ra) (.c (some rowsa.length)) := by subst hE; exact gQ he
    have p18 : getE E 18 = enS fB 1 (visB rowsa.length ra) (.c (some rowsa.length)) := by subst hE; exact gQ he
    have p19 : getE E 19 = .int .i64 (0 : Nat) := by subst hE; exact gZ he
    clear hE
    obtain ⟨ex, e1, H1, g1, hx, rfl, he1⟩ := L83_2 (q := q) (q' := q') hm hmb hI hi hLl hLL (n := rowsa.length) rfl (H0 := H ++ [none, none, none, none, none]) (g6' _) (g := γ + 5) ⟨hEl, p8, p13, p17, p18, p19⟩
    have hl5 : (H ++ [none, none, none, none, none]).length = H.length + 5 := by simp
    rw [hl5] at hx
    rw [hx]
    simp (disch := first | exact dJ | fail) only [go_sem, Nat.reduceAdd, Nat.reduceMul, Nat.reduceSub, Nat.reduceLeDiff, Nat.reduceLT, Nat.reduceEqDiff, he1, c30]
  · have c29 := f29_no (k := .n) (k' := .n) (q := q) (q' := q') hm hmb oka okb ca cb cc cd hs
    rw [decide_eq_false hs] at c17
    clear hs
    generalize Zbs rowsa insa (ordR ra) = PA at *
    generalize Zbs rowsb insb (ordR rb) = PB at *
    clear oka okb cc cd hCa hCb ca cb
    simp (disch := first | exact dK | fail) only [go_sem, Nat.reduceAdd, Nat.reduceMul, Nat.reduceSub, Nat.reduceLeDiff, Nat.reduceLT, Nat.reduceEqDiff, he, h7, h8, Zan, Zaf, Zai, List.getD_cons_zero, Zam, Zao, Zap, Zah, Zaj, Zae, Zad, Zag, g5, g6, g5', g6', c29, c12a, c12b, c17, c4, Zbc, List.append_assoc, c30]
end Go.AM
