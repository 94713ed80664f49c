/- WalksIsomorphic. -/
import Derived.Test.YteooegmokbbeoaaGauMi
set_option linter.unusedVariables false
set_option linter.unusedSimpArgs false
namespace Go.AM
section
variable {ins outs : Nat} {rows : List (List (Int × Int))}
theorem L83_1 {x0 x1 x2 x3 x4 x6 : Option (Nat × O)} (hn2 : rows.length ≤ 64) {gx : Nat} {e : List V} {g : Nat} (h : e.length = 146 ∧ getE e 5 = .ptr 2 2 0 ∧ getE e 7 = .ptr 5 5 0 ∧ getE e 8 = .ptr 6 6 0 ∧ getE e 9 = .sl 7 gx 1 0 (0 : Nat) none ∧ getE e 10 = .int .i64 (0 : Nat)) :
    ∃ ex e' H' g', X AP (.inl (some 8) Yed) ⟨e, [x0, x1, x2, x3, x4, some (5, oM .n .n ins outs rows), x6, some (gx, .cells [] .nilo)], g, none⟩ = some (ex, ⟨e', H', g', none⟩) ∧ ex = .exit 0 ∧ ∃ gx, H' = [x0, x1, x2, x3, x4, some (5, oM .n .n ins outs rows), x6, some (gx, grO fI ((List.range rows.length).map fun (t : Nat) => (t : Int)))] ∧ e'.length = 146 ∧ getE e' 5 = .ptr 2 2 0 ∧ getE e' 7 = .ptr 5 5 0 ∧ getE e' 8 = .ptr 6 6 0 ∧ getE e' 9 = .sl 7 gx 1 0 rows.length none ∧ getE e' 10 = .int .i64 rows.length := by
  refine Zbx (fun k1 e H g => ∃ (s gx : Nat) (K : Heap), k1 + s = rows.length ∧ (e.length = 146 ∧ getE e 5 = .ptr 2 2 0 ∧ getE e 7 = .ptr 5 5 0 ∧ getE e 8 = .ptr 6 6 0 ∧ getE e 9 = .sl 7 gx 1 0 s none ∧ getE e 10 = .int .i64 s) ∧ H = x0 :: x1 :: x2 :: x3 :: x4 :: some (5, oM .n .n ins outs rows) :: x6 :: some (gx, grO fI ((List.range s).map fun (t : Nat) => (t : Int))) :: K) _ ?_ rows.length e _ g ⟨0, gx, [], by omega, h, rfl⟩
  rintro k1 e H g ⟨s, gx, K, hk, ⟨he, h5, h7, h8, h9, h10⟩, rfl⟩
  unfold Yed
  have w1 : IntKind.i64.wrap ((s : Int) + 1) = ((s + 1 : Nat) : Int) := by rw [Zay (by omega) (by omega)]; rfl
  by_cases hlt : s < rows.length
  · have hsn := Zbq (fun (t : Nat) => (t : Int)) s
    have hll : ((List.range s).map fun (t : Nat) => (t : Int)).length = s := by simp
    generalize hL : (List.range s).map (fun (t : Nat) => (t : Int)) = L at *
    simp (disch := first | exact dJ | fail) only [go_sem, Nat.reduceAdd, Nat.reduceMul, Nat.reduceSub, Nat.reduceLeDiff, Nat.reduceLT, Nat.reduceEqDiff, h5, h7, h8, h9, h10, he, w1, Zan, Zaf, Zai, List.getD_cons_zero, Zam, Zao, Zap, Zah, Zaj, Zae, Zad, Zag]
    exact ⟨_, _, _, _, rfl, .inl ⟨rfl, k1 - 1, by omega, s + 1, _, _, by omega, ⟨gQ he, gQ h5, gQ h7, gQ h8, gQ he, gQ he⟩, by rw [← hsn] <;> rfl⟩⟩
  · have hs : s = rows.length := by omega
    subst hs
    simp (disch := first | exact dJ | fail) only [go_sem, Nat.reduceAdd, Nat.reduceMul, Nat.reduceSub, Nat.reduceLeDiff, Nat.reduceLT, Nat.reduceEqDiff, h5, h7, h8, h9, h10, he, w1, Zan, Zaf, Zai, List.getD_cons_zero, Zam, Zao, Zap, Zah, Zaj, Zae, Zad, Zag]
    exact ⟨_, _, _, _, rfl, .inr ⟨by simp, rfl, gx, rfl, gQ he, gQ h5, gQ h7, gQ h8, gQ h9, gQ h10⟩⟩
end
theorem f83 (S I O : Nat) (p : Bool) (es : List Nat) (ke : SC) (hes : ∀ i, es.getD i 0 < 65536) (S2 I2 O2 : Nat) (p2 : Bool) (es2 : List Nat) (ke2 : SC) (hes2 : ∀ i, es2.getD i 0 < 65536) (a b : Nat) (ha : a < 256) (hb : b < 256) :
    Zaq AP (X AP) false 83 [.agg [.int .u8 S, .int .u8 I, .int .u8 O, .bool p, enS (fN .u16) 1 es ke], .agg [.int .u8 S2, .int .u8 I2, .int .u8 O2, .bool p2, enS (fN .u16) 1 es2 ke2], .agg [.int .u8 a, .int .u8 b]] = some (.bool true, none) := by
  have hm := Zmg S I O p es
  have c2 := f2 S I O p es ke hes
  have hl := Zdl (1 + S % 6) (1 + I % 3) (1 + O % 3) p es (1 + S % 6)
  have hmb := Zmg S2 I2 O2 p2 es2
  have c2b := f2 S2 I2 O2 p2 es2 ke2 hes2
  have hlb := Zdl (1 + S2 % 6) (1 + I2 % 3) (1 + O2 % 3) p2 es2 (1 + S2 % 6)
  generalize Zfb (1 + S % 6) (1 + I % 3) (1 + O % 3) p es (1 + S % 6) = rows at *
  generalize Zfb (1 + S2 % 6) (1 + I2 % 3) (1 + O2 % 3) p2 es2 (1 + S2 % 6) = rowsb at *
  have hn6 : 1 + S % 6 ≤ 6 := by omega
  have hnb6 : 1 + S2 % 6 ≤ 6 := by omega
  generalize 1 + I % 3 = ins at *
  generalize 1 + O % 3 = outs at *
  generalize 1 + S % 6 = n at *
  generalize 1 + I2 % 3 = insb at *
  generalize 1 + O2 % 3 = outsb at *
  generalize 1 + S2 % 6 = nb at *
  subst hl
  subst hlb
  have hn1 := hm.n1
  obtain ⟨e, he, hg, hx⟩ := Zat AP83 (args := [.agg [.int .u8 S, .int .u8 I, .int .u8 O, .bool p, enS (fN .u16) 1 es ke], .agg [.int .u8 S2, .int .u8 I2, .int .u8 O2, .bool p2, enS (fN .u16) 1 es2 ke2], .agg [.int .u8 a, .int .u8 b]]) rfl (by decide)
  have he : e.length = 146 := he
  have h0 := hg 0 (by simp)
  have h1 := hg 1 (by simp)
  have h2 := hg 2 (by simp)
  simp only [Zmc, Zmv] at h0 h1 h2
  rw [hx, show c83.body = .seq (sq1 c83.body) (.seq (sq1 (sq2 c83.body)) (.seq (sq1 (sq2 (sq2 c83.body))) T83)) from rfl, show c83.res = [.tmp 6] from rfl]
  clear hx hg
  generalize hT : T83 = T at *
  unfold c83
  simp only [sq1, sq2]
  have m1 := Zfe a 2
  by_cases hsw : a % 2 = 0 ∧ 1 < rows.length
  · have hz : (a : Int).tmod 2 = 0 := by rw [show (2 : Int) = ((2 : Nat) : Int) from rfl, m1, hsw.1]; rfl
    have hgt : (rows.length : Int) > 1 := by omega
    simp (disch := first | exact dK | fail) only [go_sem, Nat.reduceAdd, Nat.reduceMul, Nat.reduceSub, Nat.reduceLeDiff, Nat.reduceLT, Nat.reduceEqDiff, h0, h1, h2, he, Zan, Zaf, Zai, List.getD_cons_zero, Zam, Zao, Zap, Zah, Zaj, Zae, Zad, Zag, c2, c2b, Yao, Int.reduceToNat, Nat.zero_mul, hz, Zbc]
    generalize hE : putE _ _ _ = E
    have hEl : E.length = 146 := by subst hE; simp (disch := first | exact dG | fail) only [Zab, Zaa, Zac, he]
    have p5 : getE E 5 = .ptr 2 2 0 := by subst hE; exact gQ he
    have p7 : getE E 7 = .ptr 5 5 0 := by subst hE; exact gQ he
    have p8 : getE E 8 = .ptr 6 6 0 := by subst hE; exact gQ he
    have p9 : getE E 9 = .sl 7 7 1 0 (0 : Nat) none := by subst hE; exact gQ he
    have p10 : getE E 10 = .int .i64 (0 : Nat) := by subst hE; exact gZ he
    clear hE
    obtain ⟨ex, e1, H1, g1, hx, rfl, gx, rfl, he1, q5, q7, q8, q9, q10⟩ := L83_1 (ins := ins) (outs := outs) (rows := rows) (x0 := some (0, AM.O.cells [V.int IntKind.u8 ↑S, V.int IntKind.u8 ↑I, V.int IntKind.u8 ↑O, V.bool p, enS (fN IntKind.u16) 1 es ke] Kd.fixed)) (x1 := some (1, AM.O.cells [V.int IntKind.u8 ↑S2, V.int IntKind.u8 ↑I2, V.int IntKind.u8 ↑O2, V.bool p2, enS (fN IntKind.u16) 1 es2 ke2] Kd.fixed)) (x2 := some (2, AM.O.cells [V.int IntKind.u8 ↑a, V.int IntKind.u8 ↑b] Kd.fixed)) (x3 := none) (x4 := none) (x6 := some (6, oM .n .n insb outsb rowsb)) (by omega) (gx := 7) (g := 8) ⟨hEl, p5, p7, p8, p9, p10⟩
    rw [hx]
    clear hx
    have hgr : grO fI ((List.range rows.length).map fun (t : Nat) => (t : Int)) = .cells (((List.range rows.length).map fun (t : Nat) => (t : Int)).flatMap fI) .loose := by
      unfold grO
      rw [if_neg (by
        have : ((List.range rows.length).map fun (t : Nat) => (t : Int)).length ≠ 0 := by rw [List.length_map, List.length_range]; omega
        intro h; rw [List.isEmpty_iff] at h; rw [h] at this; exact this rfl)]
    rw [hgr]
    clear hgr
    have hLl : ((List.range rows.length).map fun (t : Nat) => (t : Int)).length = rows.length := by simp
    have hL0 : ((List.range rows.length).map fun (t : Nat) => (t : Int)).getD 0 0 = 0 := by
      cases hn : rows.length with
      | zero => omega
      | succ m => simp [List.range_succ_eq_map]
    have hpp := fun (L : List Int) (hp : L.Perm ((List.range rows.length).map fun (t : Nat) => (t : Int))) (h0 : L.getD 0 0 = 0) => Zwf hm hp h0
    generalize (List.range rows.length).map (fun (t : Nat) => (t : Int)) = L at *
    have r1 : a % (rows.length - 1) < rows.length - 1 := Nat.mod_lt _ (by omega)
    have r2 : b % (rows.length - 1) < rows.length - 1 := Nat.mod_lt _ (by omega)
    have v1 : IntKind.i64.wrap (a : Int) = a := Zfy (by omega)
    have v2 : IntKind.i64.wrap (b : Int) = b := Zfy (by omega)
    have w3 : IntKind.i64.wrap ((rows.length : Int) - 1) = ((rows.length - 1 : Nat) : Int) := by rw [Zay (by omega) (by omega)]; omega
    have m2 := Zfe a (rows.length - 1)
    have m3 := Zfe b (rows.length - 1)
    have w4 : IntKind.i64.wrap (1 + ((a % (rows.length - 1) : Nat) : Int)) = ((1 + a % (rows.length - 1) : Nat) : Int) := by rw [Zay (by omega) (by omega)]; omega
    have w5 : IntKind.i64.wrap (1 + ((b % (rows.length - 1) : Nat) : Int)) = ((1 + b % (rows.length - 1) : Nat) : Int) := by rw [Zay (by omega) (by omega)]; omega
    obtain ⟨x, hx⟩ : ∃ x, 1 + a % (rows.length - 1) = x := ⟨_, rfl⟩
    obtain ⟨y, hy⟩ : ∃ y, 1 + b % (rows.length - 1) = y := ⟨_, rfl⟩
    rw [hx] at w4
    rw [hy] at w5
    have hx1 : 1 ≤ x ∧ x < rows.length := by omega
    have hy1 : 1 ≤ y ∧ y < rows.length := by omega
    have hfl : (L.flatMap fI).length = rows.length := by rw [Zbn (f := fI)]; omega
    have hfl2 : ((L.set x (L.getD y 0)).flatMap fI).length = rows.length := by rw [Zbn (f := fI), List.length_set]; omega
    have sp1 : Zbf (L.flatMap fI) (x * 1) [.int .i64 (L.getD y 0)] = (L.set x (L.getD y 0)).flatMap fI := Zlx (by omega)
    have sp2 : Zbf ((L.set x (L.getD y 0)).flatMap fI) (y * 1) [.int .i64 (L.getD x 0)] = (swp2 L x y).flatMap fI := Zlx (by rw [List.length_set]; omega)
    clear hx hy hz hgt m1
    have hCL := hpp (swp2 L x y) (Zqe (by omega) (by omega)) (by rw [Yci hx1.1 hy1.1]; exact hL0)
    have hsl := Yag L x y
    have c35 := f35 (k := .n) (k' := .n) hm (l := swp2 L x y) (kl := .c none) (by omega) hCL.rng
    have hok := Zfq hm hCL (by omega)
    have hfl3 : rows.length * 1 = ((swp2 L x y).flatMap fI).length := by rw [Zbn (f := fI)]; omega
    have hfp := Zdd (f := fI) (swp2 L x y)
    have hPl : (Zbs rows ins (swp2 L x y)).length ≤ 6 := by rw [Zcx]; omega
    generalize hQ : Zbs rows ins (swp2 L x y) = Q at *
    have c35' : Zaq AP (X AP) false 35 [encM .n .n ins outs rows, .arr ((swp2 L x y).flatMap fI) 1 rows.length none] = some (encM .n .n ins outs Q, none) := by
      have : (swp2 L x y).length = rows.length := by omega
      rw [← this]; exact c35
    have frz35 : ∀ (own : List (Nat × Nat)) (id g : Nat) (H : Heap) (u : Opd) (ys : List Opd), getH H 7 gx = some (.cells ((swp2 L x y).flatMap fI) .loose) → frzR AP own id g (.call .iso u ys) [.fn 35 [] [], encM .n .n ins outs rows, .sl 7 gx 1 0 rows.length none] H = some (encM .n .n ins outs Q, H.set 7 (some (gx, .cells ((swp2 L x y).flatMap fI) .froz)), [7], [7]) := fun own id g H u ys hg => by
      have hA : frzA H [.fn 35 [] [], encM .n .n ins outs rows, .sl 7 gx 1 0 rows.length none] = some ([.fn 35 [] [], encM .n .n ins outs rows, .arr ((swp2 L x y).flatMap fI) 1 rows.length none], H.set 7 (some (gx, .cells ((swp2 L x y).flatMap fI) .froz)), [7], [7]) := by
        rw [Zdr _ (by simp [Zed, Zbi]), Zdr _ (by simp [Zfg, Zax, Zbi, Zbe, Zcf]), Zgw, hg, Zfj _ hfl3 hfp (Zbu hg) rfl, Zha]; rfl
      rw [Ztr _ _ _ _ _ (by simp [Zax, Zft]) (by rw [hA]; rfl), hA, Zig, Zmq _ _ _ _ (by simp [Zax, Zbi, Zfg, Zbe, Zcf, Zhc]), c35', Zfv]
      rfl
    clear c35 c35' hfl3 hfp hsl hpp hL0
    simp (disch := first | exact dK | fail) only [go_sem, Nat.reduceAdd, Nat.reduceMul, Nat.reduceSub, Nat.reduceLeDiff, Nat.reduceLT, Nat.reduceEqDiff, q5, q7, q8, q9, he1, w3, w4, w5, v1, v2, m2, m3, Zan, Zaf, Zai, List.getD_cons_zero, Zam, Zao, Zap, Zah, Zaj, Zae, Zad, Zag, Yao, Int.reduceToNat, Nat.zero_mul, Nat.one_mul, hfl, hfl2, sp1, sp2, hLl, frz35]
    subst hT
    exact t83 (q := .n) (q' := .n) hm hok hn6 hPl (by simp (disch := first | exact dG | fail) only [Zab, Zaa, Zac, he1]) (by simp (disch := first | exact dG | fail) only [Zab, Zaa, Zac, q7]) (by simp (disch := first | exact dG | fail) only [Zab, Zaa, Zac, q8]) (by simp only [Zei, Zeb, if_true]) (by simp only [Zei, Zeb, if_true]) _
  · have hout : (a % 2 = 0 ∧ ¬ (rows.length : Int) > 1) ∨ ¬ a % 2 = 0 := by omega
    rcases hout with ⟨hz, hgt⟩ | hz
    · have hz' : (a : Int).tmod 2 = 0 := by rw [show (2 : Int) = ((2 : Nat) : Int) from rfl, m1, hz]; rfl
      simp (disch := first | exact dK | fail) only [go_sem, Nat.reduceAdd, Nat.reduceMul, Nat.reduceSub, Nat.reduceLeDiff, Nat.reduceLT, Nat.reduceEqDiff, h0, h1, h2, he, Zan, Zaf, Zai, List.getD_cons_zero, Zam, Zao, Zap, Zah, Zaj, Zae, Zad, Zag, c2, c2b, Yao, Int.reduceToNat, Nat.zero_mul, hz', Zbc]
      subst hT
      exact t83 (q := .n) (q' := .n) hm hmb hn6 hnb6 (by simp (disch := first | exact dG | fail) only [Zab, Zaa, Zac, he]) (by simp (disch := first | exact dG | fail) only [Zab, Zaa, Zac, he]) (by simp (disch := first | exact dG | fail) only [Zab, Zaa, Zac, he]) (by simp only [Zei, Zeb, if_true]) (by simp only [Zei, Zeb, if_true]) _
    · have hz' : ¬ (a : Int).tmod 2 = 0 := by rw [show (2 : Int) = ((2 : Nat) : Int) from rfl, m1]; omega
      simp (disch := first | exact dK | fail) only [go_sem, Nat.reduceAdd, Nat.reduceMul, Nat.reduceSub, Nat.reduceLeDiff, Nat.reduceLT, Nat.reduceEqDiff, h0, h1, h2, he, Zan, Zaf, Zai, List.getD_cons_zero, Zam, Zao, Zap, Zah, Zaj, Zae, Zad, Zag, c2, c2b, Yao, Int.reduceToNat, Nat.zero_mul, hz', Zbc]
      subst hT
      exact t83 (q := .n) (q' := .n) hm hmb hn6 hnb6 (by simp (disch := first | exact dG | fail) only [Zab, Zaa, Zac, he]) (by simp (disch := first | exact dG | fail) only [Zab, Zaa, Zac, he]) (by simp (disch := first | exact dG | fail) only [Zab, Zaa, Zac, he]) (by simp only [Zei, Zeb, if_true]) (by simp only [Zei, Zeb, if_true]) _
end Go.AM
