/- WalksCanonical. -/
import Derived.Test.YteooegmokbbeoaaGauMf
set_option linter.unusedVariables false
set_option linter.unusedSimpArgs false
namespace Go.AM
theorem f82 (S I O : Nat) (p : Bool) (es : List Nat) (ke : SC) (hes : ∀ i, es.getD i 0 < 65536) (ss : List Nat) (ks : SC) (hss : ∀ i, ss.getD i 0 < 256) (sw : List Nat) (kw : SC) (hsw : ∀ i, sw.getD i 0 < 256) : Zaq AP (X AP) false 82 [.agg [.int .u8 S, .int .u8 I, .int .u8 O, .bool p, enS (fN .u16) 1 es ke], .agg [enS (fN .u8) 1 ss ks], enS (fN .u8) 1 sw kw] = some (.bool true, none) := by
  have hm := Zmg S I O p es
  have c2 := f2 S I O p es ke hes
  have hl := Zdl (1 + S % 6) (1 + I % 3) (1 + O % 3) p es (1 + S % 6)
  generalize Zfb (1 + S % 6) (1 + I % 3) (1 + O % 3) p es (1 + S % 6) = rows at *
  have hn6 : 1 + S % 6 ≤ 6 := by omega
  generalize 1 + I % 3 = ins at *
  generalize 1 + O % 3 = outs at *
  generalize 1 + S % 6 = n at *
  subst hl
  have hn1 := hm.n1
  have hi1 := hm.i1
  have hi2 := hm.i2
  obtain ⟨r, hr, hI⟩ := Fifo.run (ins := ins) hm (fr := (0 : Nat)) ⟨by omega, by omega⟩
  have hrl : r.length ≤ 6 := by have := hI.num; omega
  have hC := Zfd hm hr hI
  have hol := Zdu r
  have hok := Zfq hm hC (by omega)
  have c11 := Zpv (k := .n) (k' := .n) hm hr hI (by omega)
  have c11c := Zsy (k := .c (some r.length)) (k' := .c (some ins)) hm hr hI (by omega) hC (by omega)
  have c12 := Zlv (k := .n) (k' := .n) hm hr hI (by omega)
  have hw : Wd ins (Zef ss ins) := by
    intro x hx
    obtain ⟨y, hy, rfl⟩ := List.mem_map.mp hx
    have := Nat.mod_lt y (show 0 < ins by omega)
    omega
  have hwl : (Zef ss ins).length ≤ 12 := by unfold Zef; simp; omega
  have c9 := f9 ss ks hss (ins := ins) (by omega) hi2
  have h00 : (0 : Int) ∈ ordR r := by
    have := Zci (0 : Int) (l := ordR r) (j := 0) (by have := hC.len; omega)
    rw [hC.zero] at this; exact this
  have c14a := f14 (k := .c (some r.length)) (k' := .c (some ins)) (kw := .n) hok hw (by omega) (s := 0) ⟨by omega, by have := hok.n1; omega⟩
  have c14b := f14 (k := .n) (k' := .n) (kw := .n) hm hw (by omega) (s := 0) ⟨by omega, by omega⟩
  have hrun := Znr hm hC (Zef ss ins) 0 hw (.inl h00)
  rw [hC.pos0] at hrun
  rw [hrun] at c14a
  have hrunl : ∀ (w : Word) (s : Int), (runW rows s w).length = w.length := by
    intro w
    induction w with
    | nil => intro s; rfl
    | cons a w ih => intro s; simp [runW, ih]
  have c15 := f15 (runW rows 0 (Zef ss ins)) (runW rows 0 (Zef ss ins)) .n .n (by rw [hrunl]; omega)
  rw [decide_eq_true rfl] at c15
  have c16 := f16 (k := .n) (k' := .n) hm hok c11
  have c16c := f16 (k := .c (some r.length)) (k' := .c (some ins)) hok hok c11c
  rw [decide_eq_true rfl] at c16c
  have c17 := f17 (k := .n) (k' := .n) (q := .c (some r.length)) (q' := .c (some ins)) (i1 := ins) (i2 := ins) (o1 := outs) (o2 := outs) (r1 := rows) (r2 := Zbs rows ins (ordR r)) (by omega) (fun s hs => by rw [hm.len s hs]; omega)
  have hlen : (Zbs rows ins (ordR r)).length = r.length := by rw [Zcx, hol]
  have c13 := f13 (ins := ins) (outs := outs) (i2 := ins) (o2 := outs) (rows := Zbs rows ins (ordR r)) (r2 := Zbs rows ins (ordR r)) (q := .n) (q' := .n) (by rw [hlen]; omega) (c := ins) (by omega) (fun s hs => by rw [hlen] at hs; exact Zih (by omega))
  rw [decide_eq_true ⟨rfl, rfl, rfl⟩, hlen] at c13
  have c13c := f13 (ins := ins) (outs := outs) (i2 := ins) (o2 := outs) (rows := Zbs rows ins (ordR r)) (r2 := Zbs rows ins (ordR r)) (q := .c (some r.length)) (q' := .c (some ins)) (by rw [hlen]; omega) (c := ins) (by omega) (fun s hs => by rw [hlen] at hs; exact Zih (by omega))
  rw [decide_eq_true ⟨rfl, rfl, rfl⟩, hlen] at c13c
  have c30 := f30
  have cO : ∀ L : List Int, L.Perm ((List.range rows.length).map fun (t : Nat) => (t : Int)) → L.getD 0 0 = 0 → Zaq AP (X AP) false 35 [encM .n .n ins outs rows, ints L (.c none)] = some (encM .n .n ins outs (Zbs rows ins L), none) ∧ Zaq AP (X AP) false 11 [encM .n .n ins outs (Zbs rows ins L)] = some (.tup [encM (.c (some r.length)) (.c (some ins)) ins outs (Zbs rows ins (ordR r)), .int .i64 0], none) := by
    intro L hp h0
    have hCL := Zwf hm hp h0
    have hLl := hp.length_eq
    simp at hLl
    exact ⟨f35 hm (by omega) hCL.rng, Zsy hm hr hI (by omega) hCL (by omega)⟩
  clear hC hok hI hr hol h00 hrun hlen
  generalize hP : Zbs rows ins (ordR r) = PP at *
  clear hP
  obtain ⟨e, he, hg, hx⟩ := Zat AP82 (args := [.agg [.int .u8 S, .int .u8 I, .int .u8 O, .bool p, enS (fN .u16) 1 es ke], .agg [enS (fN .u8) 1 ss ks], enS (fN .u8) 1 sw kw]) rfl (by decide)
  have he : e.length = 165 := he
  have h0 : getE e 0 = .agg [.int .u8 S, .int .u8 I, .int .u8 O, .bool p, enS (fN .u16) 1 es ke] := hg 0 (by simp only [List.length_cons]; omega)
  have h1 : getE e 1 = .agg [enS (fN .u8) 1 ss ks] := hg 1 (by simp only [List.length_cons]; omega)
  have h2 : getE e 2 = enS (fN .u8) 1 sw kw := hg 2 (by simp only [List.length_cons]; omega)
  rw [hx]; clear hx hg; unfold c82
  have hbb : decide (ins = ins ∧ outs = outs ∧ rows = PP) = decide (PP = rows) := by
    by_cases hq : PP = rows
    · rw [decide_eq_true hq, decide_eq_true ⟨rfl, rfl, hq.symm⟩]
    · rw [decide_eq_false hq, decide_eq_false (fun h => hq h.2.2.symm)]
  rw [hbb] at c17
  generalize decide (PP = rows) = bb at *
  clear hbb
  simp (disch := first | exact dK | fail) only [go_sem, Nat.reduceAdd, Nat.reduceMul, Nat.reduceSub, Nat.reduceLeDiff, Nat.reduceLT, Nat.reduceEqDiff, h0, h1, h2, he, Zan, Zaf, Zai, List.getD_cons_zero, Zam, Zao, Zap, Zah, Zaj, Zae, Zad, Zag, c2, c9, c11, c12, c13, c14a, c14b, c15, c11c, c16, c16c, c13c, c17, Ycs, Zbc, Ycl, Zmz, Zyo, Ztc]
  generalize hE : putE _ _ _ = E
  have hEl : E.length = 165 := by subst hE; simp (disch := first | exact dG | fail) only [Zab, Zaa, Zac, he]
  have p2 : getE E 2 = enS (fN .u8) 1 sw kw := by subst hE; exact gQ h2
  have p7 : getE E 7 = .ptr 3 3 0 := by subst hE; exact gQ he
  have p9 : getE E 9 = .ptr 6 6 0 := by subst hE; exact gQ he
  have p11 : getE E 11 = .ptr 13 13 0 := by subst hE; exact gQ he
  have p17 : getE E 17 = .int .i64 rows.length := by subst hE; exact gQ he
  have p18 : getE E 18 = .sl 18 18 1 0 (0 : Nat) none := by subst hE; exact gQ he
  have p19 : getE E 19 = .int .i64 (0 : Nat) := by subst hE; exact gZ he
  clear hE
  obtain ⟨HP, hHP⟩ : ∃ HP : Heap, HP = [some (0, AM.O.cells [V.int IntKind.u8 ↑S, V.int IntKind.u8 ↑I, V.int IntKind.u8 ↑O, V.bool p, enS (fN IntKind.u16) 1 es ke] Kd.fixed), some (1, AM.O.cells [enS (fN IntKind.u8) 1 ss ks] Kd.fixed), none,
    some (3, oM .n .n ins outs rows), none, none, some (6, oM (.c (some r.length)) (.c (some ins)) ins outs PP), none, none, none, none, none, none, some (13, oM (.c (some r.length)) (.c (some ins)) ins outs PP), none, none, none, none] := ⟨_, rfl⟩
  have hHl : HP.length = 18 := by rw [hHP]; rfl
  have g3 : getH HP 3 3 = some (oM .n .n ins outs rows) := by rw [hHP]; rfl
  have g6 : getH HP 6 6 = some (oM (.c (some r.length)) (.c (some ins)) ins outs PP) := by rw [hHP]; rfl
  have g13 : getH HP 13 13 = some (oM (.c (some r.length)) (.c (some ins)) ins outs PP) := by rw [hHP]; rfl
  obtain ⟨ex, e1, H1, g1, hx, rfl, gx, rfl, he1, q2, q7, q9, q11, q17, q18, q19⟩ := L82_1 (sw := sw) (ks := kw) (n := rows.length) (by omega) hHl (gx := 18) (g := 19) ⟨hEl, p2, p7, p9, p11, p17, p18, p19⟩
  rw [hHP] at hx
  simp only [List.cons_append, List.nil_append] at hx
  rw [hx]
  clear hx
  have hgr : grO fI ((List.range rows.length).map fun (t : Nat) => (t : Int)) = .cells (((List.range rows.length).map fun (t : Nat) => (t : Int)).flatMap fI) .loose := by
    unfold grO
    rw [if_neg (by
      have : ((List.range rows.length).map fun (t : Nat) => (t : Int)).length ≠ 0 := by rw [List.length_map, List.length_range]; omega
      intro h; rw [List.isEmpty_iff] at h; rw [h] at this; exact this rfl)]
  rw [hgr]
  simp (disch := first | exact dJ | fail) only [go_sem, Nat.reduceAdd, Nat.reduceMul, Nat.reduceSub, Nat.reduceLeDiff, Nat.reduceLT, Nat.reduceEqDiff, q2, q7, q9, q11, q17, q18, q19, he1]
  generalize hE : putE _ _ _ = E
  have hEl : E.length = 165 := by subst hE; simp (disch := first | exact dG | fail) only [Zab, Zaa, Zac, he1]
  have r2 : getE E 2 = enS (fN .u8) 1 sw kw := by subst hE; exact gQ q2
  have r7 : getE E 7 = .ptr 3 3 0 := by subst hE; exact gQ q7
  have r9 : getE E 9 = .ptr 6 6 0 := by subst hE; exact gQ q9
  have r11 : getE E 11 = .ptr 13 13 0 := by subst hE; exact gQ q11
  have r17 : getE E 17 = .int .i64 rows.length := by subst hE; exact gQ q17
  have r18 : getE E 18 = .sl 18 gx 1 0 rows.length none := by subst hE; exact gQ q18
  have r20 : getE E 20 = .int .i64 (0 : Nat) := by subst hE; exact gZ he1
  clear hE
  obtain ⟨ex, e2, H2, g2, hx, rfl, L, hp, h00, rfl, he2, s7, s9, s11, s18⟩ := L82_2 (sw := sw) (ks := kw) hsw (n := rows.length) (by omega) hn1 hHl (L0 := (List.range rows.length).map fun (t : Nat) => (t : Int)) (by simp) (by
    cases hn : rows.length with
    | zero => omega
    | succ m => simp [List.range_succ_eq_map]) (gx := gx) (g := g1) ⟨hEl, r2, r7, r9, r11, r17, r18, r20⟩
  rw [hHP] at hx
  simp only [List.cons_append, List.nil_append] at hx
  rw [hx]
  clear hx
  obtain ⟨c35, c11o⟩ := cO L hp h00
  have hLl := hp.length_eq
  simp only [List.length_map, List.length_range] at hLl
  have hfl : rows.length * 1 = (L.flatMap fI).length := by rw [Zbn (f := fI), hLl]
  have hfp := Zdd (f := fI) L
  generalize hQ : Zbs rows ins L = Q at *
  have c35' : Zaq AP (X AP) false 35 [encM .n .n ins outs rows, .arr (L.flatMap fI) 1 rows.length none] = some (encM .n .n ins outs Q, none) := by rw [← hLl]; exact c35
  have frz35 : ∀ (own : List (Nat × Nat)) (id g : Nat) (H : Heap) (x : Opd) (ys : List Opd), getH H 18 gx = some (.cells (L.flatMap fI) .loose) → frzR AP own id g (.call .iso x ys) [.fn 35 [] [], encM .n .n ins outs rows, .sl 18 gx 1 0 rows.length none] H = some (encM .n .n ins outs Q, H.set 18 (some (gx, .cells (L.flatMap fI) .froz)), [18], [18]) := fun own id g H x ys hg => by
    have hA : frzA H [.fn 35 [] [], encM .n .n ins outs rows, .sl 18 gx 1 0 rows.length none] = some ([.fn 35 [] [], encM .n .n ins outs rows, .arr (L.flatMap fI) 1 rows.length none], H.set 18 (some (gx, .cells (L.flatMap fI) .froz)), [18], [18]) := by
      rw [Zdr _ (by simp [Zed, Zbi]), Zdr _ (by simp [Zfg, Zax, Zbi, Zbe, Zcf]), Zgw, hg, Zfj _ hfl hfp (Zbu hg) rfl, Zha]; rfl
    rw [Ztr _ _ _ _ _ (by simp [Zax, Zft]) (by rw [hA]; rfl), hA, Zig, Zmq _ _ _ _ (by simp [Zax, Zbi, Zfg, Zbe, Zcf, Zhc]), c35', Zfv]
    rfl
  clear c35 c35' hp h00 hHP g3 g6 g13 hfl hfp hLl hQ cO
  simp (disch := first | exact dJ | fail) only [go_sem, Nat.reduceAdd, Nat.reduceMul, Nat.reduceSub, Nat.reduceLeDiff, Nat.reduceLT, Nat.reduceEqDiff, s7, s9, s11, s18, he2, Zan, Zaf, Zai, List.getD_cons_zero, Zam, Zao, Zap, Zah, Zaj, Zae, Zad, Zag, frz35, c11o, c13c, c30]
end Go.AM
