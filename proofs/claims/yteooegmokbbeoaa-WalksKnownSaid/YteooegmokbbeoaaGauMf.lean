/- The canonical form of a machine and of its parts. -/
import Derived.Test.YteooegmokbbeoaaGauMd
import Derived.Test.YteooegmokbbeoaaGauBl
set_option linter.unusedVariables false
set_option linter.unusedSimpArgs false
namespace Go.AM
section
variable {k k' : SC} {ins outs : Nat} {rows : List (List (Int × Int))}
theorem Zpv (hm : OKM ins outs rows) {r : List (Nat × Word)} (hF : Fifo rows ins (0 : Nat) [[]] [] r) (hI : FInv rows ins (0 : Nat) [] r) (hrl : r.length ≤ 64) : Zaq AP (X AP) false 11 [encM k k' ins outs rows] = some (.tup [encM (.c (some r.length)) (.c (some ins)) ins outs (Zbs rows ins (ordR r)), .int .i64 0], none) := by
  have hC := Zfd hm hF hI
  have hr0 : r ≠ [] := by intro h; have := hC.len; rw [Zdu, h] at this; simp at this
  rw [← Zkl hm hC]
  exact f11 hm hI.good hrl hF hr0
theorem Zky (hm : OKM ins outs rows) {r : List (Nat × Word)} (hF : Fifo rows ins (0 : Nat) [[]] [] r) {l : List Int} (hC : CL rows ins l) (hl : l.length ≤ 64) : Fifo (Zbs rows ins l) ins (0 : Nat) [[]] [] (mapR l r) ∧ FInv (Zbs rows ins l) ins (0 : Nat) [] (mapR l r) ∧ ∀ x ∈ r, (x.1 : Int) ∈ l := by
  obtain ⟨h1, h2⟩ := Zya hm hC hF (by intro c hc; simp only [List.mem_singleton] at hc; subst hc; intro x hx; cases hx) (by intro x hx; cases hx)
  have hok := Zfq hm hC hl
  exact ⟨h1, h1.inv hok ⟨by omega, by have := hok.n1; omega⟩ (FInv.start hok _), h2⟩
theorem Zsy (hm : OKM ins outs rows) {r : List (Nat × Word)} (hF : Fifo rows ins (0 : Nat) [[]] [] r) (hI : FInv rows ins (0 : Nat) [] r) (hrl : r.length ≤ 64) {l : List Int} (hC : CL rows ins l) (hl : l.length ≤ 64) : Zaq AP (X AP) false 11 [encM k k' ins outs (Zbs rows ins l)] = some (.tup [encM (.c (some r.length)) (.c (some ins)) ins outs (Zbs rows ins (ordR r)), .int .i64 0], none) := by
  obtain ⟨h1, h2, h3⟩ := Zky hm hF hC hl
  have hok := Zfq hm hC hl
  have := Zpv (k := k) (k' := k') hok h1 h2 (by unfold mapR; rw [List.length_map]; exact hrl)
  rw [this, Zyr hC.nd h3, Zvd hm hC hF hI h3]
  unfold mapR
  rw [List.length_map]
theorem Zlv (hm : OKM ins outs rows) {r : List (Nat × Word)} (hF : Fifo rows ins (0 : Nat) [[]] [] r) (hI : FInv rows ins (0 : Nat) [] r) (hrl : r.length ≤ 64) : Zaq AP (X AP) false 12 [encM k k' ins outs rows] = some (encM .n .n ins outs (Zbs rows ins (ordR r)), none) := by
  have hw : ∀ t w, lk r t = some w → w.length ≤ 1000 := fun t w h => by have := hI.len h; have := hm.n2; omega
  have := f12 (k := k) (k' := k') hm hw hF
  rw [Zxd hm ⟨by omega, by have := hm.n1; omega⟩ hI hF] at this
  exact this
/-- A list of all states, in another order but for the first one. -/
theorem Zwf (hm : OKM ins outs rows) {l : List Int} (hp : l.Perm ((List.range rows.length).map fun (t : Nat) => (t : Int))) (h0 : l.getD 0 0 = 0) : CL rows ins l := by
  have hn1 := hm.n1
  have hl := hp.length_eq
  simp at hl
  have hmem : ∀ x, x ∈ l ↔ ∃ t : Nat, t < rows.length ∧ (t : Int) = x := fun x => by rw [hp.mem_iff]; simp
  refine ⟨hp.nodup_iff.mpr ?_, fun x hx => ?_, ?_, fun x hx i hi he => ?_⟩
  · unfold List.Nodup
    rw [List.pairwise_map]
    exact List.Pairwise.imp (fun h e => h (by omega)) List.nodup_range
  · obtain ⟨t, ht, rfl⟩ := (hmem x).mp hx; omega
  · cases l with
    | nil => simp at hl; omega
    | cons a t => simp at h0; simp [h0]
  · obtain ⟨t, ht, rfl⟩ := (hmem x).mp hx
    rw [hmem]
    simp only [Int.toNat_natCast] at he ⊢
    rcases hm.ok t ht i hi with e | e
    · rw [e] at he; simp at he
    · exact ⟨(edg rows t i).1.toNat, by omega, by omega⟩
def swp2 (L : List Int) (a b : Nat) : List Int := (L.set a (L.getD b 0)).set b (L.getD a 0)
theorem Yag (L : List Int) (a b : Nat) : (swp2 L a b).length = L.length := by simp [swp2]
theorem Zqe {L : List Int} {a b : Nat} (ha : a < L.length) (hb : b < L.length) : (swp2 L a b).Perm L := by
  have := List.set_set_perm (as := L) ha hb
  unfold swp2
  simpa [List.getD_eq_getElem?_getD, ha, hb] using this
theorem Yci {L : List Int} {a b : Nat} (ha : 1 ≤ a) (hb : 1 ≤ b) : (swp2 L a b).getD 0 0 = L.getD 0 0 := by
  unfold swp2
  rw [List.getD_eq_getElem?_getD, List.getElem?_set_ne (by omega), List.getElem?_set_ne (by omega), ← List.getD_eq_getElem?_getD]
theorem L82_1 {sw : List Nat} {ks : SC} {n : Nat} (hn2 : n ≤ 64) {HP : Heap} (hHP : HP.length = 18) {gx : Nat} {e : List V} {g : Nat} (h : e.length = 165 ∧ getE e 2 = enS (fN .u8) 1 sw ks ∧ getE e 7 = .ptr 3 3 0 ∧ getE e 9 = .ptr 6 6 0 ∧ getE e 11 = .ptr 13 13 0 ∧ getE e 17 = .int .i64 n ∧ getE e 18 = .sl 18 gx 1 0 (0 : Nat) none ∧ getE e 19 = .int .i64 (0 : Nat)) :
    ∃ ex e' H' g', X AP (.inl (some 19) Yfr) ⟨e, HP ++ [some (gx, .cells [] .nilo)], g, none⟩ = some (ex, ⟨e', H', g', none⟩) ∧ ex = .exit 0 ∧ ∃ gx, H' = HP ++ [some (gx, grO fI ((List.range n).map fun (t : Nat) => (t : Int)))] ∧ e'.length = 165 ∧ getE e' 2 = enS (fN .u8) 1 sw ks ∧ getE e' 7 = .ptr 3 3 0 ∧ getE e' 9 = .ptr 6 6 0 ∧ getE e' 11 = .ptr 13 13 0 ∧ getE e' 17 = .int .i64 n ∧ getE e' 18 = .sl 18 gx 1 0 n none ∧ getE e' 19 = .int .i64 n := by
  refine Zbx (fun k1 e H g => ∃ (s gx : Nat) (K : Heap), k1 + s = n ∧ (e.length = 165 ∧ getE e 2 = enS (fN .u8) 1 sw ks ∧ getE e 7 = .ptr 3 3 0 ∧ getE e 9 = .ptr 6 6 0 ∧ getE e 11 = .ptr 13 13 0 ∧ getE e 17 = .int .i64 n ∧ getE e 18 = .sl 18 gx 1 0 s none ∧ getE e 19 = .int .i64 s) ∧ H = HP ++ some (gx, grO fI ((List.range s).map fun (t : Nat) => (t : Int))) :: K) _ ?_ n e _ g ⟨0, gx, [], by omega, h, rfl⟩
  rintro k1 e H g ⟨s, gx, K, hk, ⟨he, h2, h7, h9, h11, h17, h18, h19⟩, rfl⟩
  unfold Yfr
  have w1 : IntKind.i64.wrap ((s : Int) + 1) = ((s + 1 : Nat) : Int) := by rw [Zay (by omega) (by omega)]; rfl
  have hT : (HP ++ some (gx, grO fI ((List.range s).map fun (t : Nat) => (t : Int))) :: K).take 19 = HP ++ [some (gx, grO fI ((List.range s).map fun (t : Nat) => (t : Int)))] := by
    rw [List.take_append, List.take_of_length_le (by omega), hHP]; rfl
  by_cases hlt : s < n
  · have hsn := Zbq (fun (t : Nat) => (t : Int)) s
    have hll : ((List.range s).map fun (t : Nat) => (t : Int)).length = s := by simp
    generalize hL : (List.range s).map (fun (t : Nat) => (t : Int)) = L at *
    have g18 : ∀ K, getH (HP ++ some (gx, grO fI L) :: K) 18 gx = some (grO fI L) := fun K => by rw [← hHP, Zbm]; simp [getH]
    have s18 : ∀ x y K, (HP ++ x :: K).set 18 y = HP ++ y :: K := fun x y K => by rw [← hHP, Zbv]
    have hl1 : ∀ x K, (HP ++ x :: K).length = 18 + (K.length + 1) := fun x K => by simp [hHP]
    have e19 : ∀ x y K g, getH (HP ++ x :: y :: K) 19 g = getH (y :: K) 0 g := fun x y K g => by
      have := Zbr HP (x :: y :: K) 1 g
      rw [hHP] at this; exact this
    have t19 : ∀ x y z K, (HP ++ x :: y :: K).set 19 z = HP ++ x :: z :: K := fun x y z K => by
      have := Zdq HP (x :: y :: K) 1 z
      rw [hHP] at this; exact this
    simp (disch := first | exact dJ | fail) only [go_sem, Nat.reduceAdd, Nat.reduceMul, Nat.reduceSub, Nat.reduceLeDiff, Nat.reduceLT, Nat.reduceEqDiff, h2, h7, h9, h11, h17, h18, h19, he, w1, Zan, Zaf, Zai, List.getD_cons_zero, Zam, Zao, Zap, Zah, Zaj, Zae, Zad, Zag, hT, g18, s18, hl1, e19, t19, List.append_assoc]
    exact ⟨_, _, _, _, rfl, .inl ⟨rfl, k1 - 1, by omega, s + 1, _, _, by omega, ⟨gQ he, gQ h2, gQ h7, gQ h9, gQ h11, gQ h17, gQ he, gQ he⟩, by rw [← hsn] <;> rfl⟩⟩
  · have hs : s = n := by omega
    subst hs
    simp (disch := first | exact dJ | fail) only [go_sem, Nat.reduceAdd, Nat.reduceMul, Nat.reduceSub, Nat.reduceLeDiff, Nat.reduceLT, Nat.reduceEqDiff, h2, h7, h9, h11, h17, h18, h19, he, w1, Zan, Zaf, Zai, List.getD_cons_zero, Zam, Zao, Zap, Zah, Zaj, Zae, Zad, Zag, hT]
    exact ⟨_, _, _, _, rfl, .inr ⟨by simp, rfl, gx, rfl, gQ he, gQ h2, gQ h7, gQ h9, gQ h11, gQ h17, gQ h18, gQ h19⟩⟩
theorem L82_2 {sw : List Nat} {ks : SC} (hsw : ∀ i, sw.getD i 0 < 256) {n : Nat} (hn2 : n ≤ 64) (hn1 : 1 ≤ n) {HP : Heap} (hHP : HP.length = 18) {L0 : List Int} (hL0 : L0.length = n) (h00 : L0.getD 0 0 = 0) {gx : Nat} {e : List V} {g : Nat} (h : e.length = 165 ∧ getE e 2 = enS (fN .u8) 1 sw ks ∧ getE e 7 = .ptr 3 3 0 ∧ getE e 9 = .ptr 6 6 0 ∧ getE e 11 = .ptr 13 13 0 ∧ getE e 17 = .int .i64 n ∧ getE e 18 = .sl 18 gx 1 0 n none ∧ getE e 20 = .int .i64 (0 : Nat)) :
    ∃ ex e' H' g', X AP (.inl (some 19) Yen) ⟨e, HP ++ [some (gx, .cells (L0.flatMap fI) .loose)], g, none⟩ = some (ex, ⟨e', H', g', none⟩) ∧ ex = .exit 2 ∧ ∃ L : List Int, L.Perm L0 ∧ L.getD 0 0 = 0 ∧ H' = HP ++ [some (gx, .cells (L.flatMap fI) .loose)] ∧ (e'.length = 165 ∧ getE e' 7 = .ptr 3 3 0 ∧ getE e' 9 = .ptr 6 6 0 ∧ getE e' 11 = .ptr 13 13 0 ∧ getE e' 18 = .sl 18 gx 1 0 n none) := by
  refine Zbx (fun k1 e H g => ∃ (kk : Nat) (L : List Int), k1 + kk = 22 ∧ (e.length = 165 ∧ getE e 2 = enS (fN .u8) 1 sw ks ∧ getE e 7 = .ptr 3 3 0 ∧ getE e 9 = .ptr 6 6 0 ∧ getE e 11 = .ptr 13 13 0 ∧ getE e 17 = .int .i64 n ∧ getE e 18 = .sl 18 gx 1 0 n none ∧ getE e 20 = .int .i64 kk) ∧ H = HP ++ [some (gx, .cells (L.flatMap fI) .loose)] ∧ L.Perm L0 ∧ L.getD 0 0 = 0) _ ?_ 22 e _ g ⟨0, L0, by omega, h, rfl, List.Perm.refl _, h00⟩
  rintro k1 e H g ⟨kk, L, hk, ⟨he, h2, h7, h9, h11, h17, h18, h20⟩, rfl, hp, hz⟩
  unfold Yen
  have w1 : IntKind.i64.wrap ((kk : Int) + 1) = ((kk + 1 : Nat) : Int) := by rw [Zay (by omega) (by omega)]; rfl
  have w2 : IntKind.i64.wrap ((kk : Int) + 2) = ((kk + 2 : Nat) : Int) := by rw [Zay (by omega) (by omega)]; rfl
  have hLl : L.length = n := by rw [hp.length_eq, hL0]
  have hT : (HP ++ [some (gx, O.cells (L.flatMap fI) .loose)]).take 19 = HP ++ [some (gx, .cells (L.flatMap fI) .loose)] := List.take_of_length_le (by simp; omega)
  by_cases hlt : kk + 1 < sw.length
  · have hlt' : ((kk + 1 : Nat) : Int) < sw.length := by omega
    by_cases hk20 : kk < 20
    · by_cases hn : 1 < n
      · have q1 : sw.getD kk 0 % (n - 1) < n - 1 := Nat.mod_lt _ (by omega)
        have q2 : sw.getD (kk + 1) 0 % (n - 1) < n - 1 := Nat.mod_lt _ (by omega)
        have v1 : IntKind.i64.wrap ((sw.getD kk 0 : Nat) : Int) = ((sw.getD kk 0 : Nat) : Int) := Zfy (by have := hsw kk; omega)
        have v2 : IntKind.i64.wrap ((sw.getD (kk + 1) 0 : Nat) : Int) = ((sw.getD (kk + 1) 0 : Nat) : Int) := Zfy (by have := hsw (kk + 1); omega)
        have w3 : IntKind.i64.wrap ((n : Int) - 1) = ((n - 1 : Nat) : Int) := by rw [Zay (by omega) (by omega)]; omega
        have m1 := Zfe (sw.getD kk 0) (n - 1)
        have m2 := Zfe (sw.getD (kk + 1) 0) (n - 1)
        have w4 : IntKind.i64.wrap (1 + ((sw.getD kk 0 % (n - 1) : Nat) : Int)) = ((1 + sw.getD kk 0 % (n - 1) : Nat) : Int) := by rw [Zay (by omega) (by omega)]; omega
        have w5 : IntKind.i64.wrap (1 + ((sw.getD (kk + 1) 0 % (n - 1) : Nat) : Int)) = ((1 + sw.getD (kk + 1) 0 % (n - 1) : Nat) : Int) := by rw [Zay (by omega) (by omega)]; omega
        obtain ⟨a, ha⟩ : ∃ a, 1 + sw.getD kk 0 % (n - 1) = a := ⟨_, rfl⟩
        obtain ⟨b, hb⟩ : ∃ b, 1 + sw.getD (kk + 1) 0 % (n - 1) = b := ⟨_, rfl⟩
        rw [ha] at w4
        rw [hb] at w5
        have ha1 : 1 ≤ a ∧ a < n := by omega
        have hb1 : 1 ≤ b ∧ b < n := by omega
        have hG : getH (HP ++ [some (gx, O.cells (L.flatMap fI) .loose)]) 18 gx = some (.cells (L.flatMap fI) .loose) := by rw [← hHP, Zbm]; simp [getH]
        have g18 : ∀ o, getH (HP ++ [some (gx, o)]) 18 gx = some o := fun o => by rw [← hHP, Zbm]; simp [getH]
        have s18 : ∀ y, (HP ++ [some (gx, O.cells (L.flatMap fI) .loose)]).set 18 y = HP ++ [y] := fun y => by rw [← hHP, Zbv]
        have s18' : ∀ x y, (HP ++ [x]).set 18 y = HP ++ [y] := fun x y => by rw [← hHP, Zbv]
        have hfl : (L.flatMap fI).length = n := by rw [Zbn (f := fI)]; omega
        have hfl2 : ((L.set a (L.getD b 0)).flatMap fI).length = n := by rw [Zbn (f := fI), List.length_set]; omega
        have hl1 : ∀ x, (HP ++ [x]).length = 19 := fun x => by simp [hHP]
        have sp1 : Zbf (L.flatMap fI) (a * 1) [.int .i64 (L.getD b 0)] = (L.set a (L.getD b 0)).flatMap fI := Zlx (by omega)
        have sp2 : Zbf ((L.set a (L.getD b 0)).flatMap fI) (b * 1) [.int .i64 (L.getD a 0)] = (swp2 L a b).flatMap fI := Zlx (by rw [List.length_set]; omega)
        clear hb ha
        simp (disch := first | exact dK | fail) only [go_sem, Nat.reduceAdd, Nat.reduceMul, Nat.reduceSub, Nat.reduceLeDiff, Nat.reduceLT, Nat.reduceEqDiff, h2, h7, h9, h11, h17, h18, h20, he, w1, w2, w3, w4, w5, v1, v2, m1, m2, Zan, Zaf, Zai, List.getD_cons_zero, Zam, Zao, Zap, Zah, Zaj, Zae, Zad, Zag, Zam, hT, hG, g18, s18, s18', sp1, sp2, hfl, hfl2, hl1]
        exact ⟨_, _, _, _, rfl, .inl ⟨rfl, k1 - 2, by omega, kk + 2, swp2 L a b, by omega, ⟨gQ he, gQ h2, gQ h7, gQ h9, gQ h11, gQ h17, gQ h18, gQ he⟩, rfl, (Zqe (by omega) (by omega)).trans hp, by rw [Yci ha1.1 hb1.1]; exact hz⟩⟩
      · have hn' : ¬ (n : Int) > 1 := by omega
        simp (disch := first | exact dJ | fail) only [go_sem, Nat.reduceAdd, Nat.reduceMul, Nat.reduceSub, Nat.reduceLeDiff, Nat.reduceLT, Nat.reduceEqDiff, h2, h7, h9, h11, h17, h18, h20, he, w1, w2, Zan, Zaf, Zai, List.getD_cons_zero, Zam, Zao, Zap, Zah, Zaj, Zae, Zad, Zag, hT]
        exact ⟨_, _, _, _, rfl, .inr ⟨by simp, rfl, L, hp, hz, rfl, gQ he, gQ h7, gQ h9, gQ h11, gQ h18⟩⟩
    · simp (disch := first | exact dJ | fail) only [go_sem, Nat.reduceAdd, Nat.reduceMul, Nat.reduceSub, Nat.reduceLeDiff, Nat.reduceLT, Nat.reduceEqDiff, h2, h7, h9, h11, h17, h18, h20, he, w1, w2, Zan, Zaf, Zai, List.getD_cons_zero, Zam, Zao, Zap, Zah, Zaj, Zae, Zad, Zag, hT]
      exact ⟨_, _, _, _, rfl, .inr ⟨by simp, rfl, L, hp, hz, rfl, gQ he, gQ h7, gQ h9, gQ h11, gQ h18⟩⟩
  · have hlt' : ¬ ((kk + 1 : Nat) : Int) < sw.length := by omega
    simp (disch := first | exact dJ | fail) only [go_sem, Nat.reduceAdd, Nat.reduceMul, Nat.reduceSub, Nat.reduceLeDiff, Nat.reduceLT, Nat.reduceEqDiff, h2, h7, h9, h11, h17, h18, h20, he, w1, w2, Zan, Zaf, Zai, List.getD_cons_zero, Zam, Zao, Zap, Zah, Zaj, Zae, Zad, Zag, hT]
    exact ⟨_, _, _, _, rfl, .inr ⟨by simp, rfl, L, hp, hz, rfl, gQ he, gQ h7, gQ h9, gQ h11, gQ h18⟩⟩
end
end Go.AM
