/- WalksKnown: machines of a counter. -/
import Derived.Test.YteooegmokbbeoaaGauJg
import Derived.Test.YteooegmokbbeoaaGauMg
import Derived.Test.YteooegmokbbeoaaGauMj
import Derived.Test.YteooegmokbbeoaaGauHd
set_option linter.unusedVariables false
set_option linter.unusedSimpArgs false
namespace Go.AM
theorem Zsa {l : List Nat} {b : Nat} (h : ∀ x ∈ l, x < b) (hb : 0 < b) (i : Nat) : l.getD i 0 < b := by
  by_cases hi : i < l.length
  · exact h _ (Zci 0 hi)
  · rw [List.getD_eq_getElem?_getD, List.getElem?_eq_none (by omega)]; exact hb
theorem wrap16 (n : Nat) : IntKind.u16.wrap (n : Int) = ((n % 65536 : Nat) : Int) := by
  unfold IntKind.wrap
  simp [IntKind.bits, IntKind.signed]
theorem Zuz (n : Nat) : IntKind.u8.wrap (n : Int) = ((n % 256 : Nat) : Int) := by
  unfold IntKind.wrap
  simp [IntKind.bits, IntKind.signed]
theorem L84_3 {x0 x1 x2 x3 x4 : Option (Nat × O)} {kk ga gb : Nat} (hk : kk < 100003) {v9 : V} {e : List V} {g : Nat} (h : e.length = 181 ∧ getE e 8 = .int .i64 (kk : Nat) ∧ getE e 9 = v9 ∧ getE e 10 = .sl 5 ga 1 0 (0 : Nat) none ∧ getE e 11 = .sl 6 gb 1 0 (0 : Nat) none ∧ getE e 12 = .int .i64 (0 : Nat)) :
    ∃ ex e' H' g', X AP (.inl (some 7) Yhr) ⟨e, [x0, x1, x2, x3, x4, some (ga, .cells [] .nilo), some (gb, .cells [] .nilo)], g, none⟩ = some (ex, ⟨e', H', g', none⟩) ∧ ex = .exit 4 ∧ (∃ (kk ga gb : Nat) (L T : List Nat), kk < 100003 ∧ L.length = 18 ∧ T.length = 18 ∧ (∀ x ∈ L, x < 65536) ∧ (∀ x ∈ T, x < 256) ∧ H' = [x0, x1, x2, x3, x4, some (ga, grO (fN .u16) L), some (gb, grO (fN .u8) T)] ∧ (e'.length = 181 ∧ getE e' 8 = .int .i64 kk ∧ getE e' 9 = v9 ∧ getE e' 10 = .sl 5 ga 1 0 L.length none ∧ getE e' 11 = .sl 6 gb 1 0 T.length none)) := by
  refine Zbx (fun k1 e H g => ∃ (i kk ga gb : Nat) (L T : List Nat) (K : Heap), k1 + i = 18 ∧ kk < 100003 ∧ L.length = i ∧ T.length = i ∧ (∀ x ∈ L, x < 65536) ∧ (∀ x ∈ T, x < 256) ∧ H = x0 :: x1 :: x2 :: x3 :: x4 :: some (ga, grO (fN .u16) L) :: some (gb, grO (fN .u8) T) :: K ∧ (e.length = 181 ∧ getE e 8 = .int .i64 (kk : Nat) ∧ getE e 9 = v9 ∧ getE e 10 = .sl 5 ga 1 0 L.length none ∧ getE e 11 = .sl 6 gb 1 0 T.length none ∧ getE e 12 = .int .i64 i)) _ ?_ 18 e _ g ⟨0, kk, ga, gb, [], [], [], by omega, hk, rfl, rfl, by simp, by simp, rfl, h⟩
  rintro k1 e H g ⟨i, kk, ga, gb, L, T, K, hk1, hk, hL, hT, hL2, hT2, rfl, ⟨he, h8, h9, h10, h11, h12⟩⟩
  unfold Yhr
  have w1 : IntKind.i64.wrap ((i : Int) + 1) = ((i + 1 : Nat) : Int) := by rw [Zay (by omega) (by omega)]; rfl
  have hTk : ∀ x y : Option (Nat × O), (x0 :: x1 :: x2 :: x3 :: x4 :: x :: y :: K : Heap).take 7 = [x0, x1, x2, x3, x4, x, y] := fun _ _ => rfl
  by_cases hlt : i < 18
  · have c1 : ((i : Int) < 18) = True := by simp; omega
    have w2 : IntKind.i64.wrap ((kk : Int) * 31) = ((kk * 31 : Nat) : Int) := by rw [Zay (by omega) (by omega)]; omega
    have w3 : IntKind.i64.wrap (7 * (i : Int)) = ((7 * i : Nat) : Int) := by rw [Zay (by omega) (by omega)]; omega
    have w4 : IntKind.i64.wrap (((kk * 31 : Nat) : Int) + ((7 * i : Nat) : Int)) = ((kk * 31 + 7 * i : Nat) : Int) := by rw [Zay (by omega) (by omega)]; omega
    have w5 : IntKind.i64.wrap (((kk * 31 + 7 * i : Nat) : Int) + 11) = ((kk * 31 + 7 * i + 11 : Nat) : Int) := by rw [Zay (by omega) (by omega)]; omega
    have d1 : ((kk * 31 + 7 * i + 11 : Nat) : Int).tmod 100003 = (((kk * 31 + 7 * i + 11) % 100003 : Nat) : Int) := Zfe _ 100003
    have hm : (kk * 31 + 7 * i + 11) % 100003 < 100003 := Nat.mod_lt _ (by omega)
    generalize (kk * 31 + 7 * i + 11) % 100003 = k2 at *
    have d2 : ((k2 : Nat) : Int).tdiv 7 = ((k2 / 7 : Nat) : Int) := Znu _ 7
    have w6 : IntKind.i64.wrap ((k2 / 7 : Nat) : Int) = ((k2 / 7 : Nat) : Int) := by rw [Zfy (by omega)]
    have u1 := wrap16 k2
    have u2 := Zuz (k2 / 7)
    have a16 : ∀ (id g j : Nat) (H : Heap) (kd : Kd), 5 < H.length → appA 2 id g 1 5 ga L.length none j H (some (grO (fN .u16) L)) (some (.cells [.int .u16 ((k2 % 65536 : Nat) : Int)] kd)) = some (.sl 5 g 1 0 (L.length + 1) none, H.set 5 (some (g, grO (fN .u16) (L ++ [k2 % 65536]))), [j, 5], [5]) := fun id g j H kd hh => Zhl (f := fN .u16) 2 5 ga j L (k2 % 65536) kd rfl rfl (by omega) (by decide) hh
    have a8 : ∀ (id g j : Nat) (H : Heap) (kd : Kd), 6 < H.length → appA 1 id g 1 6 gb T.length none j H (some (grO (fN .u8) T)) (some (.cells [.int .u8 ((k2 / 7 % 256 : Nat) : Int)] kd)) = some (.sl 6 g 1 0 (T.length + 1) none, H.set 6 (some (g, grO (fN .u8) (T ++ [k2 / 7 % 256]))), [j, 6], [6]) := fun id g j H kd hh => Zhl (f := fN .u8) 1 6 gb j T (k2 / 7 % 256) kd rfl rfl (by omega) (by decide) hh
    simp (disch := first | exact dK | fail) only [go_sem, Nat.reduceAdd, Nat.reduceMul, Nat.reduceSub, Nat.reduceLeDiff, Nat.reduceLT, Nat.reduceEqDiff, h8, h9, h10, h11, h12, he, w1, w2, w3, w4, w5, w6, d1, d2, u1, u2, Zan, Zaf, Zai, List.getD_cons_zero, Zam, Zao, Zap, Zah, Zaj, Zae, Zad, Zag, hTk, c1, Zbc, a16, a8]
    refine ⟨_, _, _, _, rfl, .inl ⟨rfl, k1 - 1, by omega, i + 1, k2, _, _, L ++ [k2 % 65536], T ++ [k2 / 7 % 256], _, by omega, hm, by simp [hL], by simp [hT], ?_, ?_, rfl, ?_⟩⟩
    · intro x hx
      rcases List.mem_append.mp hx with hx | hx
      · exact hL2 x hx
      · rw [List.mem_singleton.mp hx]; exact Nat.mod_lt _ (by omega)
    · intro x hx
      rcases List.mem_append.mp hx with hx | hx
      · exact hT2 x hx
      · rw [List.mem_singleton.mp hx]; exact Nat.mod_lt _ (by omega)
    · rw [List.length_append, List.length_append]
      exact ⟨gQ he, gQ he, gQ h9, gQ he, gQ he, gQ he⟩
  · have hi' : i = 18 := by omega
    subst hi'
    simp (disch := first | exact dJ | fail) only [go_sem, Nat.reduceAdd, Nat.reduceMul, Nat.reduceSub, Nat.reduceLeDiff, Nat.reduceLT, Nat.reduceEqDiff, h8, h9, h10, h11, h12, he, w1, Zan, Zaf, Zai, List.getD_cons_zero, Zam, Zao, Zap, Zah, Zaj, Zae, Zad, Zag, hTk]
    exact ⟨_, _, _, _, rfl, .inr ⟨by simp, rfl, ⟨kk, ga, gb, L, T, hk, hL, hT, hL2, hT2, rfl, gQ he, gQ h8, gQ h9, gQ h10, gQ h11⟩⟩⟩
section
variable {H : Heap}
theorem Zhg {k : IntKind} {i gi n : Nat} {c : Option Nat} {L : List Nat} {kd : Kd} (hk : Zcs kd = true) (hg : getH H i gi = some (.cells (L.flatMap (fN k)) kd)) (hn : n = L.length) : Zie H (.sl i gi 1 0 n c) = some ([i], enS (fN k) 1 L (.c c)) := by
  subst hn
  rw [Zfr, hg, Zdg hk (by rw [Zbn (f := fN k)]) (Zjj (fN k) (fun _ => by simp [fN, Zak.pureL, Zak]) _)]
  rfl
theorem Zjd {v v' : V} {vs : List V} {r : List Nat} {vs' : List V} {rs : List Nat} (h1 : Zie H v = some (r, v')) (h2 : Zfm H vs = some (rs, vs')) : Zfm H (v :: vs) = some (r ++ rs, v' :: vs') := by
  rw [Zca, h1, h2, Zhk]
theorem Zhw {v : V} {vs vs' : List V} {rs : List Nat} (h1 : Zak v = true) (h2 : Zfm H vs = some (rs, vs')) : Zfm H (v :: vs) = some (rs, v :: vs') := Zjd (Zdx h1) h2
theorem Zmk {cs rest : List V} (h : Zak.pureL cs = false) : Zak.pureL (.agg cs :: rest) = false := by
  rw [Zax]
  have : Zak (.agg cs) = false := by simpa [Zak] using h
  rw [this]; rfl
theorem Zry {v : V} {vs vs' : List V} {rs : List Nat} (h1 : Zak v = true) (h2 : Zfx H vs = some (rs, vs')) : Zfx H (v :: vs) = some (rs, v :: vs') := by
  rw [Zuy _ h1, h2, Zhk]; rfl
end
theorem L84_2 {x0 x1 x2 x3 x4 : Option (Nat × O)} {e : List V} {g : Nat} (h : e.length = 181 ∧ getE e 8 = .int .i64 (1 : Nat) ∧ getE e 9 = .int .i64 (0 : Nat)) :
    ∃ ex e' H' g', X AP (.inl (some 5) Ydt) ⟨e, [x0, x1, x2, x3, x4], g, none⟩ = some (ex, ⟨e', H', g', none⟩) ∧ ex = .exit 2 ∧ (∃ K, H' = x0 :: x1 :: x2 :: x3 :: x4 :: K) ∧ e'.length = 181 := by
  refine Zbx (fun k1 e H g => ∃ (n kk : Nat) (K : Heap), k1 + n = 60 ∧ kk < 100003 ∧ H = x0 :: x1 :: x2 :: x3 :: x4 :: K ∧ (e.length = 181 ∧ getE e 8 = .int .i64 (kk : Nat) ∧ getE e 9 = .int .i64 n)) _ ?_ 60 e _ g ⟨0, 1, [], by omega, by omega, rfl, h⟩
  rintro k1 e H g ⟨n, kk, K, hk1, hk, rfl, ⟨he, h8, h9⟩⟩
  unfold Ydt
  have w1 : IntKind.i64.wrap ((n : Int) + 1) = ((n + 1 : Nat) : Int) := by rw [Zay (by omega) (by omega)]; rfl
  have hTk : (x0 :: x1 :: x2 :: x3 :: x4 :: K : Heap).take 5 = [x0, x1, x2, x3, x4] := rfl
  by_cases hlt : n < 60
  · have c1 : ((n : Int) < 60) = True := by simp; omega
    simp (disch := first | exact dK | fail) only [go_sem, Nat.reduceAdd, Nat.reduceMul, Nat.reduceSub, Nat.reduceLeDiff, Nat.reduceLT, Nat.reduceEqDiff, h8, h9, he, w1, Zan, Zaf, Zai, List.getD_cons_zero, Zam, Zao, Zap, Zah, Zaj, Zae, Zad, Zag, hTk, c1, Zbc]
    generalize hE : putE _ _ _ = E
    have hEl : E.length = 181 := by subst hE; simp (disch := first | exact dG | fail) only [Zab, Zaa, Zac, he]
    have p8 : getE E 8 = .int .i64 kk := by subst hE; exact gQ h8
    have p9 : getE E 9 = .int .i64 n := by subst hE; exact gQ h9
    have p10 : getE E 10 = .sl 5 g 1 0 (0 : Nat) none := by subst hE; exact gQ he
    have p11 : getE E 11 = .sl 6 (g + 1) 1 0 (0 : Nat) none := by subst hE; exact gQ he
    have p12 : getE E 12 = .int .i64 (0 : Nat) := by subst hE; exact gZ he
    clear hE
    obtain ⟨ex, e1, H1, g1, hx, rfl, ⟨k2, ga, gb, L, T, hk2, hL, hT, hL2, hT2, rfl, he1, q8, q9, q10, q11⟩⟩ := L84_3 (x0 := x0) (x1 := x1) (x2 := x2) (x3 := x3) (x4 := x4) hk (ga := g) (gb := g + 1) (v9 := .int .i64 n) (g := g + 2) ⟨hEl, p8, p9, p10, p11, p12⟩
    rw [hx]
    clear hx
    have u1 := Zuz n
    have d3 : ((n : Nat) : Int).tdiv 3 = ((n / 3 : Nat) : Int) := Znu _ 3
    have d2 : ((n : Nat) : Int).tdiv 2 = ((n / 2 : Nat) : Int) := Znu _ 2
    have d7 : ((k2 : Nat) : Int).tdiv 7 = ((k2 / 7 : Nat) : Int) := Znu _ 7
    have m2 : ((n : Nat) : Int).tmod 2 = ((n % 2 : Nat) : Int) := Zfe _ 2
    have w3 : IntKind.i64.wrap ((n / 3 : Nat) : Int) = ((n / 3 : Nat) : Int) := Zfy (by omega)
    have w2 : IntKind.i64.wrap ((n / 2 : Nat) : Int) = ((n / 2 : Nat) : Int) := Zfy (by omega)
    have w7 : IntKind.i64.wrap ((k2 / 7 : Nat) : Int) = ((k2 / 7 : Nat) : Int) := Zfy (by omega)
    have u3 := Zuz (n / 3)
    have u2 := Zuz (n / 2)
    have u7 := Zuz (k2 / 7)
    have uk := Zuz k2
    generalize hb : decide (((n % 2 : Nat) : Int) = 0) = bb
    have hgL : grO (fN .u16) L = .cells (L.flatMap (fN .u16)) .loose := by
      unfold grO
      rw [if_neg (by intro h; rw [List.isEmpty_iff] at h; rw [h] at hL; simp at hL)]
    have hgT : grO (fN .u8) T = .cells (T.flatMap (fN .u8)) .loose := by
      unfold grO
      rw [if_neg (by intro h; rw [List.isEmpty_iff] at h; rw [h] at hT; simp at hT)]
    have hLg : ∀ i, L.getD i 0 < 65536 := Zsa hL2 (by omega)
    have hTg : ∀ i, T.getD i 0 < 256 := Zsa hT2 (by omega)
    have hWg : ∀ i, [k2 % 256, n % 256, 1, 2, k2 / 7 % 256].getD i 0 < 256 := Zsa (by simp; omega) (by omega)
    have c78 := f78 (n % 256) (n / 3 % 256) (n / 2 % 256) bb L (.c none) hLg
    have c79 := f79 (n % 256) (n / 3 % 256) (n / 2 % 256) (n % 256) (k2 % 256) bb L (.c none) hLg (by omega) (by omega)
    have c81 := f81 (n % 256) (n / 3 % 256) (n / 2 % 256) bb L (.c none) hLg [k2 % 256, n % 256, 1, 2, k2 / 7 % 256] (.c (some 5)) hWg
    have c82 := f82 (n % 256) (n / 3 % 256) (n / 2 % 256) bb L (.c none) hLg [k2 % 256, n % 256, 1, 2, k2 / 7 % 256] (.c (some 5)) hWg T (.c none) hTg
    have c83 := f83 (n % 256) (n / 3 % 256) (n / 2 % 256) bb L (.c none) hLg (n % 256) (n / 3 % 256) (n / 2 % 256) bb L (.c none) hLg (n % 256) (k2 % 256) (by omega) (by omega)
    have c42 := f42 (n % 256) (n / 3 % 256) (n / 2 % 256) T L (.c none) (.c none) (by omega) (by omega) (by omega) hTg hLg
    have snM : ∀ (H : Heap), getH H 5 ga = some (.cells (L.flatMap (fN .u16)) .loose) → Zfm H [.int .u8 (n % 256 : Nat), .int .u8 (n / 3 % 256 : Nat), .int .u8 (n / 2 % 256 : Nat), .bool bb, .sl 5 ga 1 0 L.length none] = some ([5], [.int .u8 (n % 256 : Nat), .int .u8 (n / 3 % 256 : Nat), .int .u8 (n / 2 % 256 : Nat), .bool bb, enS (fN .u16) 1 L (.c none)]) := fun H h =>
      Zhw (Zbe ..) (Zhw (Zbe ..) (Zhw (Zbe ..) (Zhw rfl (Zjd (Zhg rfl h rfl) Zde))))
    have npM : Zak.pureL [.int .u8 (n % 256 : Nat), .int .u8 (n / 3 % 256 : Nat), .int .u8 (n / 2 % 256 : Nat), .bool bb, .sl 5 ga 1 0 L.length none] = false := by simp [Zak.pureL, Zak]
    have i78 : ∀ (own : List (Nat × Nat)) (id g : Nat) (H : Heap) (x : Opd) (ys : List Opd), getH H 5 ga = some (.cells (L.flatMap (fN .u16)) .loose) → opR AP own id g (.call .iso x ys) [.fn 78 [] [], .agg [.int .u8 (n % 256 : Nat), .int .u8 (n / 3 % 256 : Nat), .int .u8 (n / 2 % 256 : Nat), .bool bb, .sl 5 ga 1 0 L.length none]] H = some (.bool true, H, [5], []) := fun own id g H x ys h => by
      rw [Zmn x ys 78 _ _ _ (Zdz npM (snM H h) Zfw) (Zmk npM), c78]; exact Zdf ..
    have i79 : ∀ (own : List (Nat × Nat)) (id g : Nat) (H : Heap) (x : Opd) (ys : List Opd), getH H 5 ga = some (.cells (L.flatMap (fN .u16)) .loose) → opR AP own id g (.call .iso x ys) [.fn 79 [] [], .agg [.int .u8 (n % 256 : Nat), .int .u8 (n / 3 % 256 : Nat), .int .u8 (n / 2 % 256 : Nat), .bool bb, .sl 5 ga 1 0 L.length none], .int .u8 (n % 256 : Nat), .int .u8 (k2 % 256 : Nat)] H = some (.bool true, H, [5], []) := fun own id g H x ys h => by
      rw [Zmn x ys 79 _ _ _ (Zdz npM (snM H h) (Zry (Zbe ..) (Zry (Zbe ..) Zfw))) (Zmk npM), c79]; exact Zdf ..
    have i81 : ∀ (own : List (Nat × Nat)) (id g g8 : Nat) (H : Heap) (x : Opd) (ys : List Opd), getH H 5 ga = some (.cells (L.flatMap (fN .u16)) .loose) → getH H 8 g8 = some (.cells ([k2 % 256, n % 256, 1, 2, k2 / 7 % 256].flatMap (fN .u8)) .fixed) → opR AP own id g (.call .iso x ys) [.fn 81 [] [], .agg [.int .u8 (n % 256 : Nat), .int .u8 (n / 3 % 256 : Nat), .int .u8 (n / 2 % 256 : Nat), .bool bb, .sl 5 ga 1 0 L.length none], .agg [.sl 8 g8 1 0 5 (some 5)]] H = some (.bool true, H, [5, 8], []) := fun own id g g8 H x ys h h8 => by
      rw [Zmn x ys 81 _ _ _ (Zdz npM (snM H h) (Zdz rfl (Zjd (Zhg (n := 5) (c := some 5) rfl h8 rfl) Zde) Zfw)) (Zmk npM), c81]; exact Zdf ..
    have i82 : ∀ (own : List (Nat × Nat)) (id g g8 : Nat) (H : Heap) (x : Opd) (ys : List Opd), getH H 5 ga = some (.cells (L.flatMap (fN .u16)) .loose) → getH H 6 gb = some (.cells (T.flatMap (fN .u8)) .loose) → getH H 8 g8 = some (.cells ([k2 % 256, n % 256, 1, 2, k2 / 7 % 256].flatMap (fN .u8)) .fixed) → opR AP own id g (.call .iso x ys) [.fn 82 [] [], .agg [.int .u8 (n % 256 : Nat), .int .u8 (n / 3 % 256 : Nat), .int .u8 (n / 2 % 256 : Nat), .bool bb, .sl 5 ga 1 0 L.length none], .agg [.sl 8 g8 1 0 5 (some 5)], .sl 6 gb 1 0 T.length none] H = some (.bool true, H, [5, 8, 6], []) := fun own id g g8 H x ys h h6 h8 => by
      rw [Zmn x ys 82 _ _ _ (Zdz npM (snM H h) (Zdz rfl (Zjd (Zhg (n := 5) (c := some 5) rfl h8 rfl) Zde) (Zzy (Zhg (c := none) rfl h6 rfl) Zfw))) (Zmk npM), c82]; exact Zdf ..
    have i83 : ∀ (own : List (Nat × Nat)) (id g : Nat) (H : Heap) (x : Opd) (ys : List Opd), getH H 5 ga = some (.cells (L.flatMap (fN .u16)) .loose) → opR AP own id g (.call .iso x ys) [.fn 83 [] [], .agg [.int .u8 (n % 256 : Nat), .int .u8 (n / 3 % 256 : Nat), .int .u8 (n / 2 % 256 : Nat), .bool bb, .sl 5 ga 1 0 L.length none], .agg [.int .u8 (n % 256 : Nat), .int .u8 (n / 3 % 256 : Nat), .int .u8 (n / 2 % 256 : Nat), .bool bb, .sl 5 ga 1 0 L.length none], .agg [.int .u8 (n % 256 : Nat), .int .u8 (k2 % 256 : Nat)]] H = some (.bool true, H, [5, 5], []) := fun own id g H x ys h => by
      rw [Zmn x ys 83 _ _ _ (Zdz npM (snM H h) (Zdz npM (snM H h) (Zry rfl Zfw))) (Zmk npM), c83]; exact Zdf ..
    have i42 : ∀ (own : List (Nat × Nat)) (id g : Nat) (H : Heap) (x : Opd) (ys : List Opd), getH H 5 ga = some (.cells (L.flatMap (fN .u16)) .loose) → getH H 6 gb = some (.cells (T.flatMap (fN .u8)) .loose) → opR AP own id g (.call .iso x ys) [.fn 42 [] [], .agg [.int .u8 (n % 256 : Nat), .int .u8 (n / 3 % 256 : Nat), .int .u8 (n / 2 % 256 : Nat), .sl 6 gb 1 0 T.length none, .sl 5 ga 1 0 L.length none]] H = some (.bool true, H, [6, 5], []) := fun own id g H x ys h h6 => by
      rw [Zmn x ys 42 _ _ _ (Zdz rfl (Zhw (Zbe ..) (Zhw (Zbe ..) (Zhw (Zbe ..) (Zjd (Zhg (c := none) rfl h6 rfl) (Zjd (Zhg rfl h rfl) Zde))))) Zfw) (Zmk (by simp [Zak.pureL, Zak])), c42]; exact Zdf ..
    have eW : [k2 % 256, n % 256, 1, 2, k2 / 7 % 256].flatMap (fN .u8) = [.int .u8 (k2 % 256 : Nat), .int .u8 (n % 256 : Nat), .int .u8 1, .int .u8 2, .int .u8 (k2 / 7 % 256 : Nat)] := rfl
    rw [eW] at i81 i82
    rw [hgL, hgT]
    clear c78 c79 c81 c82 c83 c42 snM npM eW hgL hgT hLg hTg hWg hL2 hT2 p8 p9 p10 p11 p12
    have lW : ∀ v : V, ldC 1 true 0 [v] = some (.agg [v]) := fun _ => rfl
    generalize L.flatMap (fN .u16) = CL at *
    generalize T.flatMap (fN .u8) = CT at *
    simp (disch := first | exact dK | fail) only [go_sem, Nat.reduceAdd, Nat.reduceMul, Nat.reduceSub, Nat.reduceLeDiff, Nat.reduceLT, Nat.reduceEqDiff, q8, q9, q10, q11, he1, Zan, Zaf, Zai, List.getD_cons_zero, Zam, Zao, Zap, Zah, Zaj, Zae, Zad, Zag, u1, u2, u3, u7, uk, d2, d3, d7, m2, w2, w3, w7, Zbc, w1, hb, i78, i79, i81, i82, i83, i42, lW, Option.map_some]
    exact ⟨_, _, _, _, rfl, .inl ⟨rfl, k1 - 1, by omega, n + 1, k2, _, by omega, hk2, rfl, gQ he1, gQ q8, gQ he1⟩⟩
  · have hi' : n = 60 := by omega
    subst hi'
    simp (disch := first | exact dJ | fail) only [go_sem, Nat.reduceAdd, Nat.reduceMul, Nat.reduceSub, Nat.reduceLeDiff, Nat.reduceLT, Nat.reduceEqDiff, h8, h9, he, w1, Zan, Zaf, Zai, List.getD_cons_zero, Zam, Zao, Zap, Zah, Zaj, Zae, Zad, Zag, hTk]
    exact ⟨_, _, _, _, rfl, .inr ⟨by simp, rfl, ⟨_, rfl⟩, by simp (disch := first | exact dG | fail) only [Zab, Zaa, Zac, he]⟩⟩
theorem f84 : Zaq AP (X AP) false 84 [] = some (.bool true, none) := by
  have hl : (Zdn 64).length = 64 := by simp [Zdn]
  have hm := Zyk
  obtain ⟨r, hr, hI⟩ := Fifo.run (ins := 2) hm (fr := (0 : Nat)) ⟨by omega, by omega⟩
  obtain ⟨r2, hr2, hI2⟩ := Fifo.run (ins := 2) hm (fr := (10 : Nat)) ⟨by omega, by omega⟩
  obtain ⟨w, l1, l2⟩ := Zjc (fr := 0) (t := 1) (d := 63) (by omega) (by omega) (by omega) hr hI
  obtain ⟨w9, m1, m2⟩ := Zjc (fr := 10) (t := 9) (d := 1) (by omega) (by omega) (by omega) hr2 hI2
  obtain ⟨w10, m3, m4⟩ := Zjc (fr := 10) (t := 10) (d := 0) (by omega) (by omega) (by omega) hr2 hI2
  obtain ⟨w11, m5, m6⟩ := Zjc (fr := 10) (t := 11) (d := 63) (by omega) (by omega) (by omega) hr2 hI2
  have c5 := f5 (k := .c none) (k' := .c (some 2)) hm (s := 0) (t := 1) (by omega) (by omega) hI.good (by have := hI.num; omega) hr
  have c6 := f6 (k := .c none) (k' := .c (some 2)) hm (s := 10) (by omega) hI2.good (by have := hI2.num; omega) hr2
  rw [l1] at c5
  have hD9 : ((List.range (Zdn 64).length).map (dst r2)).getD 9 0 = 1 := by rw [hl]; simp [List.getD_eq_getElem?_getD, dst, m1, m2]
  have hD10 : ((List.range (Zdn 64).length).map (dst r2)).getD 10 0 = 0 := by rw [hl]; simp [List.getD_eq_getElem?_getD, dst, m3, m4]
  have hD11 : ((List.range (Zdn 64).length).map (dst r2)).getD 11 0 = 63 := by rw [hl]; simp [List.getD_eq_getElem?_getD, dst, m5, m6]
  have hDl : ((List.range (Zdn 64).length).map (dst r2)).length = 64 := by simp [hl]
  rw [hl] at c6
  rw [hl] at hD9 hD10 hD11 hDl
  generalize (List.range 64).map (dst r2) = D at *
  have e1 : encM (.c none) (.c (some 2)) (2 : Nat) (1 : Nat) (Zdn 64) = .agg [.int .i64 2, .int .i64 1, .arr ((Zdn 64).flatMap (fR (.c (some 2)))) 1 64 none] := by
    show V.agg [_, _, enS _ _ _ _] = _
    unfold enS
    rw [hl]; rfl
  rw [e1] at c5 c6
  have hfl : ((Zdn 64).flatMap (fR (.c (some 2)))).length = 64 := by rw [Zbn (f := fR (.c (some 2)))]; omega
  have hfp : Zak.pureL ((Zdn 64).flatMap (fR (.c (some 2)))) = true := Zjj (fR (.c (some 2))) (fun _ => by simp [fR, Zax, Zbi, Zcf]) _
  have hgr : grO (fR (.c (some 2))) (Zdn 64) = .cells ((Zdn 64).flatMap (fR (.c (some 2)))) .loose := by
    unfold grO
    rw [if_neg (by intro h; rw [List.isEmpty_iff] at h; rw [h] at hl; simp at hl)]
  generalize (Zdn 64).flatMap (fR (.c (some 2))) = C at *
  have z5 : ∀ (own : List (Nat × Nat)) (id g gr : Nat) (H : Heap) (x : Opd) (ys : List Opd), getH H 2 gr = some (.cells C .loose) → frzR AP own id g (.call .iso x ys) [.fn 5 [] [], .agg [.int .i64 2, .int .i64 1, .sl 2 gr 1 0 64 none], .int .i64 0, .int .i64 1] H = some (.tup [encP (some w), .bool true, .int .i64 0], H.set 2 (some (gr, .cells C .froz)), [2], [2]) := fun own id g gr H x ys hg => by
    have hA : frzA H [.int .i64 2, .int .i64 1, .sl 2 gr 1 0 64 none] = some ([.int .i64 2, .int .i64 1, .arr C 1 64 none], H.set 2 (some (gr, .cells C .froz)), [2], [2]) := by
      rw [Zdr _ (Zbe ..), Zdr _ (Zbe ..), Zgw, hg, Zfj _ (by rw [hfl]) hfp (Zbu hg) rfl, Zha]; rfl
    rw [Yak _ _ (by simp [Zax, Zft]) (by simp [Zax, Zbi, Zbe]) hA, Zmq _ _ _ _ (by simp [Zax, Zbi, Zfg, Zbe, Zhc, hfp])]
    have c5' : Zaq AP (X AP) false 5 [.agg [.int .i64 2, .int .i64 1, .arr C 1 64 none], .int .i64 0, .int .i64 1] = _ := c5
    rw [c5', Zfv]
    rfl
  have z6 : ∀ (own : List (Nat × Nat)) (id g gr : Nat) (H : Heap) (x : Opd) (ys : List Opd), getH H 2 gr = some (.cells C .froz) → frzR AP own id g (.call .iso x ys) [.fn 6 [] [], .agg [.int .i64 2, .int .i64 1, .sl 2 gr 1 0 64 none], .int .i64 10] H = some (.tup [ints D (.c (some 64)), .int .i64 0], H, [2], []) := fun own id g gr H x ys hg => by
    rw [Zxb _ _ (Zbe ..) (Zbe ..) (by simp [Zax, Zbi, Zbe]) hg hfl.symm hfp, Zmq _ _ _ _ (by simp [Zax, Zbi, Zfg, Zbe, Zhc, hfp])]
    have c6' : Zaq AP (X AP) false 6 [.agg [.int .i64 2, .int .i64 1, .arr C 1 64 none], .int .i64 10] = _ := c6
    rw [c6', Zfv]
    rfl
  obtain ⟨e, he, hg, hx⟩ := Zat AP84 (args := []) rfl (by decide)
  have he : e.length = 181 := he
  rw [hx]; clear hx hg; unfold c84
  simp (disch := first | exact dK | fail) only [go_sem, Nat.reduceAdd, Nat.reduceMul, Nat.reduceSub, Nat.reduceLeDiff, Nat.reduceLT, Nat.reduceEqDiff, he, Zan, Zaf, Zai, List.getD_cons_zero, Zam, Zao, Zap, Zah, Zaj, Zae, Zad, Zag, Zbc]
  generalize hE : putE _ _ _ = E
  have hEl : E.length = 181 := by subst hE; simp (disch := first | exact dG | fail) only [Zab, Zaa, Zac, he]
  have p1 : getE E 1 = .ptr 0 0 0 := by subst hE; exact gQ he
  have p2 : getE E 2 = .int .i64 (0 : Nat) := by subst hE; exact gZ he
  clear hE
  obtain ⟨ex, e1, H1, g1, hx, rfl, ⟨gr, rfl⟩, he1, q1⟩ := L84_1 (x1 := some (1, .cells [] .nilo)) (gr := 2) (g := 3) ⟨hEl, p1, p2⟩
  rw [hx, hgr]
  clear hx hr hr2 hI hI2 hm
  have l10 : ldC 1 false 10 (D.flatMap fI) = some (.int .i64 (D.getD 10 0)) := Zan (i := 10) (by omega)
  have l11 : ldC 1 false 11 (D.flatMap fI) = some (.int .i64 (D.getD 11 0)) := Zan (i := 11) (by omega)
  have l9 : ldC 1 false 9 (D.flatMap fI) = some (.int .i64 (D.getD 9 0)) := Zan (i := 9) (by omega)
  rw [hD10] at l10
  rw [hD11] at l11
  rw [hD9] at l9
  have eP : encP (some w) = enS fI 1 w (kdP w) := rfl
  rw [eP] at z5
  simp (disch := first | exact dK | fail) only [go_sem, Nat.reduceAdd, Nat.reduceMul, Nat.reduceSub, Nat.reduceLeDiff, Nat.reduceLT, Nat.reduceEqDiff, he1, q1, Zan, Zaf, Zai, List.getD_cons_zero, Zam, Zao, Zap, Zah, Zaj, Zae, Zad, Zag, z5, z6, Zbc, l2, hDl, l9, l10, l11, Int.reduceToNat]
  generalize hE : putE _ _ _ = E
  have hEl : E.length = 181 := by subst hE; simp (disch := first | exact dG | fail) only [Zab, Zaa, Zac, he1]
  have r8 : getE E 8 = .int .i64 (1 : Nat) := by subst hE; simp (disch := first | exact dG | fail) only [Zab, Zaa, Zac, he1, Int.natCast_one]
  have r9 : getE E 9 = .int .i64 (0 : Nat) := by subst hE; exact gZ he1
  clear hE
  have c30 := f30
  obtain ⟨ex, e2, H2, g2, hx, rfl, ⟨K, rfl⟩, he2⟩ := L84_2 (x0 := some (0, .cells [.int .i64 2, .int .i64 1, .sl 2 gr 1 0 64 none] .fixed)) (x1 := some (1, .cells [] .nilo)) (x2 := some (gr, .cells C .froz)) (x3 := none) (x4 := none) (g := g1 + 2) ⟨hEl, r8, r9⟩
  rw [hx]
  clear hx
  simp (disch := first | exact dJ | fail) only [go_sem, Nat.reduceAdd, Nat.reduceMul, Nat.reduceSub, Nat.reduceLeDiff, Nat.reduceLT, Nat.reduceEqDiff, he2, c30]
end Go.AM
