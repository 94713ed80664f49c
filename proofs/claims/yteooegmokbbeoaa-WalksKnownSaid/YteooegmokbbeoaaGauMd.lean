/- The trimmed machine. -/
import Derived.Test.YteooegmokbbeoaaGauMb
import Derived.Test.YteooegmokbbeoaaGauId
import Derived.Test.YteooegmokbbeoaaGauBl
set_option linter.unusedVariables false
set_option linter.unusedSimpArgs false
namespace Go.AM
theorem Ycs (a : V) (cs : List V) : ldC 1 true 0 (a :: cs) = some (.agg [a]) := by simp [ldC, cut, mkV]
section
variable {ins outs : Nat} {rows : List (List (Int × Int))}
theorem Zph (hm : OKM ins outs rows) {r : List (Nat × Word)} (hF : Fifo rows ins (0 : Nat) [[]] [] r) (hI : FInv rows ins (0 : Nat) [] r) : CL rows ins (Zbd rows.length r) := by
  have hp := Zfu hI.good
  have hC := Zfd hm hF hI
  have hmem : ∀ x, x ∈ Zbd rows.length r ↔ x ∈ ordR r := fun x => (hp.mem_iff).symm
  refine ⟨hp.nodup_iff.mp hC.nd, fun x hx => hC.rng x ((hmem x).mp hx), ?_, fun x hx i hi he => (hmem _).mpr (hC.clo x ((hmem x).mp hx) i hi he)⟩
  have h0 : (0 : Int) ∈ Zbd rows.length r := by
    rw [hmem]
    have := Zci (0 : Int) (l := ordR r) (j := 0) (by have := hC.len; omega)
    rw [hC.zero] at this; exact this
  have hs : (lk r 0).isSome = true := by
    unfold Zbd at h0
    obtain ⟨t, ht, e⟩ := List.mem_map.mp h0
    have := (List.mem_filter.mp ht).2
    have e' : t = 0 := by omega
    subst e'; exact this
  have hn1 := hm.n1
  obtain ⟨n, hn⟩ : ∃ n, rows.length = n + 1 := ⟨rows.length - 1, by omega⟩
  unfold Zbd
  rw [hn, List.range_succ_eq_map]
  simp [hs]
/-! ### Rounds -/
theorem Zgp {σ : Type} (R : σ → σ → Prop) (hr : ∀ x, R x x) (ht : ∀ x y z, R x y → R y z → R x z) (f : σ → Nat → σ) (hf : ∀ s i, R s (f s i)) : ∀ n s, R s (iter f n s)
  | 0, s => hr s
  | n + 1, s => ht _ _ _ (Zgp R hr ht f hf n s) (hf _ _)
def LeB (a b : List Bool) : Prop := a.length = b.length ∧ ∀ t, a.getD t false = true → b.getD t false = true
theorem LeB.refl (a : List Bool) : LeB a a := ⟨rfl, fun _ h => h⟩
theorem LeB.trans {a b c : List Bool} (h1 : LeB a b) (h2 : LeB b c) : LeB a c := ⟨h1.1.trans h2.1, fun t h => h2.2 t (h1.2 t h)⟩
theorem Yfd (a : List Bool) (i : Nat) : LeB a (a.set i true) := by
  refine ⟨by simp, fun t h => ?_⟩
  rw [List.getD_eq_getElem?_getD] at h ⊢
  rw [List.getElem?_set]
  split
  · rename_i e; subst e
    split
    · rfl
    · rename_i h2; rw [List.getElem?_eq_none (by omega)] at h; cases h
  · exact h
theorem Znb (s : Nat) (L : List Bool) (i : Nat) : LeB L (rel1 rows s L i) := by
  unfold rel1; split
  · exact Yfd _ _
  · exact LeB.refl _
theorem Znq (L : List Bool) (s : Nat) : LeB L (relS rows ins L s) := Zgp LeB LeB.refl (fun _ _ _ => LeB.trans) _ (fun L i => Znb s L i) _ _
theorem Yat (L : List Bool) (s : Nat) : LeB L (relR rows ins L s) := Zgp LeB LeB.refl (fun _ _ _ => LeB.trans) _ (fun L i => Znq L i) _ _
theorem Zjp {σ : Type} (R : σ → σ → Prop) (hr : ∀ x, R x x) (ht : ∀ x y z, R x y → R y z → R x z) (f : σ → Nat → σ) (hf : ∀ s i, R s (f s i)) (s : σ) : ∀ n m, m ≤ n → R (iter f m s) (iter f n s)
  | 0, m, h => by have : m = 0 := by omega
                  subst this; exact hr _
  | n + 1, m, h => by
    by_cases e : m = n + 1
    · subst e; exact hr _
    · exact ht _ _ _ (Zjp R hr ht f hf s n m (by omega)) (hf _ _)
theorem Zzc {L : List Bool} {s i : Nat} (hi : i < ins) (hs : L.getD s false = true) (he : 0 ≤ (edg rows s i).1) (hb : (edg rows s i).1.toNat < L.length) : (relS rows ins L s).getD (edg rows s i).1.toNat false = true := by
  have h1 : LeB L (iter (rel1 rows s) i L) := Zgp LeB LeB.refl (fun _ _ _ => LeB.trans) _ (fun L i => Znb s L i) _ _
  have h2 : (iter (rel1 rows s) (i + 1) L).getD (edg rows s i).1.toNat false = true := by
    simp only [iter]
    rw [rel1, if_pos ⟨h1.2 s hs, he⟩]
    have hl : (edg rows s i).1.toNat < (iter (rel1 rows s) i L).length := by rw [← h1.1]; exact hb
    simp [List.getD_eq_getElem?_getD, hl]
  exact (Zjp LeB LeB.refl (fun _ _ _ => LeB.trans) _ (fun L i => Znb s L i) L ins (i + 1) (by omega)).2 _ h2
theorem Zvl {L : List Bool} {s i k : Nat} (hsn : s < rows.length) (hi : i < ins) (hs : L.getD s false = true) (he : 0 ≤ (edg rows s i).1) (hb : (edg rows s i).1.toNat < L.length) : (relR rows ins L k).getD (edg rows s i).1.toNat false = true := by
  have h1 : LeB L (iter (relS rows ins) s L) := Zgp LeB LeB.refl (fun _ _ _ => LeB.trans) _ (fun L i => Znq L i) _ _
  have h2 : (iter (relS rows ins) (s + 1) L).getD (edg rows s i).1.toNat false = true := by
    simp only [iter]
    exact Zzc hi (h1.2 s hs) he (by rw [← h1.1]; exact hb)
  exact (Zjp LeB LeB.refl (fun _ _ _ => LeB.trans) _ (fun L i => Znq L i) L rows.length (s + 1) (by omega)).2 _ h2
theorem Zsd (rows : List (List (Int × Int))) : ∀ (w : Word) (s j : Int), aft rows s (w ++ [j]) = (nxt rows (aft rows s w) j).1
  | [], s, j => rfl
  | a :: w, s, j => by simp only [List.cons_append, aft]; exact Zsd rows w _ j
/-- After so many rounds all states that short words Zcp are found. -/
theorem Zhu (hm : OKM ins outs rows) {f : Nat} (hf : f < rows.length) : ∀ (k : Nat) (w : Word) (t : Nat), w.length ≤ k → Wd ins w → aft rows f w = t → (iter (relR rows ins) k ((List.replicate rows.length false).set f true)).getD t false = true
  | 0, w, t, hl, hw, ha => by
    have : w = [] := List.eq_nil_of_length_eq_zero (by omega)
    subst this
    have : t = f := by simp only [aft] at ha; omega
    subst this
    simp [iter, List.getD_eq_getElem?_getD, hf]
  | k + 1, w, t, hl, hw, ha => by
    have hlen : ∀ k, (iter (relR rows ins) k ((List.replicate rows.length false).set f true)).length = rows.length := fun k => by rw [Zfo _ (fun L i => Znh L i)]; simp
    rcases List.eq_nil_or_concat w with rfl | ⟨u, i, rfl⟩
    · have := Zhu hm hf k [] t (by simp) hw ha
      exact (Yat _ k).2 t this
    · rw [List.concat_eq_append] at *
      rw [Zsd] at ha
      have hi := hw i (by simp)
      have hu : Wd ins u := fun x hx => hw x (by simp [hx])
      have hst := Zkv hm (s := (f : Int)) ⟨by omega, by omega⟩ hu
      have hn : ¬ aft rows f u < 0 := by
        intro h
        unfold nxt at ha
        rw [if_pos h] at ha
        simp at ha
      obtain ⟨s, hs⟩ : ∃ s : Nat, aft rows f u = s := ⟨(aft rows f u).toNat, by omega⟩
      have ih := Zhu hm hf k u s (by simp at hl; omega) hu hs
      rw [hs] at ha hst
      unfold nxt at ha
      rw [if_neg (by omega), Int.toNat_natCast] at ha
      have := Zvl (rows := rows) (ins := ins) (k := k) (s := s) (i := i.toNat) (by have := hst.2; omega) (by omega) ih (by omega) (by
        rw [hlen]
        rcases hm.ok s (by have := hst.2; omega) i.toNat (by omega) with e | e
        · rw [e] at ha; simp at ha
        · omega)
      rw [ha, Int.toNat_natCast] at this
      exact this
/-- A machine whose states are all Zck is connected. -/
theorem Zrk (hm : OKM ins outs rows) (h : ∀ s, s < rows.length → ∃ w, Wd ins w ∧ w.length ≤ rows.length ∧ aft rows (0 : Nat) w = s) : ∀ s, s < rows.length → (Zck rows ins 0).getD s false = true := by
  intro s hs
  obtain ⟨w, h1, h2, h3⟩ := h s hs
  exact Zhu hm (f := 0) (by have := hm.n1; omega) rows.length w s h2 h1 h3
/-- The states of what is Zck, trimmed, are all Zck. -/
theorem Zlz (hm : OKM ins outs rows) {r : List (Nat × Word)} (hI : FInv rows ins (0 : Nat) [] r) {l : List Int} (hC : CL rows ins l) (hl : l.length ≤ 64) (hlr : l.length = r.length) (hmem : ∀ x ∈ l, ∃ t : Nat, x = t ∧ (lk r t).isSome = true) : ∀ s, s < (Zbs rows ins l).length → (Zck (Zbs rows ins l) ins 0).getD s false = true := by
  have hok := Zfq hm hC hl
  apply Zrk hok
  intro s hs
  rw [Zcx] at hs ⊢
  obtain ⟨t, ht, hsome⟩ := hmem _ (Zci 0 hs)
  obtain ⟨w, hw⟩ := Option.isSome_iff_exists.mp hsome
  have ha := hI.at_ t w hw
  obtain ⟨ys, zs, hz⟩ := Zif hw
  have hwl := (hI.good ys (t, w) zs hz).2.2.2
  refine ⟨w, ha.2.2, ?_, ?_⟩
  · simp only at hwl
    rw [hlr, hz]; simp; omega
  · have h0 : (0 : Int) ∈ l := by
      have := Zci (0 : Int) (l := l) (j := 0) (by have := hC.len; omega)
      rw [hC.zero] at this; exact this
    have := (Znc hm hC w 0 ha.2.2 (.inl h0)).1
    rw [hC.pos0] at this
    rw [Int.natCast_zero] at ha
    rw [Int.natCast_zero, this, ha.1, ← ht, Zlr hC.nd hs]
end
end Go.AM

set_option linter.unusedVariables false
set_option linter.unusedSimpArgs false
namespace Go.AM
section
variable {ins outs : Nat} {rows : List (List (Int × Int))}
theorem L81_1 {r : List (Nat × Word)} {x0 x1 x2 x3 x4 x5 x6 x7 : Option (Nat × O)} {n : Nat} (hn2 : n ≤ 64) {v6 v8 : V} {g12 : Nat} {e : List V} {g : Nat} (h : e.length = 73 ∧ getE e 5 = .ptr 3 3 0 ∧ getE e 6 = v6 ∧ getE e 7 = .ptr 6 6 0 ∧ getE e 8 = v8 ∧ getE e 9 = .int .i64 0 ∧ getE e 11 = enS fB 1 (visB n r) (.c (some n)) ∧ getE e 12 = .sl 8 g12 1 0 (0 : Nat) none ∧ getE e 13 = .int .i64 (0 : Nat)) :
    ∃ ex e' H' g', X AP (.inl (some 9) Ygm) ⟨e, [x0, x1, x2, x3, x4, x5, x6, x7, some (g12, .cells [] .nilo)], g, none⟩ = some (ex, ⟨e', H', g', none⟩) ∧ ex = .exit 0 ∧ ∃ g12, H' = [x0, x1, x2, x3, x4, x5, x6, x7, some (g12, grO fI (Zbd n r))] ∧ e'.length = 73 ∧ getE e' 5 = .ptr 3 3 0 ∧ getE e' 6 = v6 ∧ getE e' 7 = .ptr 6 6 0 ∧ getE e' 8 = v8 ∧ getE e' 9 = .int .i64 0 ∧ getE e' 11 = enS fB 1 (visB n r) (.c (some n)) ∧ getE e' 12 = .sl 8 g12 1 0 (Zbd n r).length none ∧ getE e' 13 = .int .i64 n := by
  refine Zbx (fun k1 e H g => ∃ (s g12 : Nat) (K : Heap), k1 + s = n ∧ (e.length = 73 ∧ getE e 5 = .ptr 3 3 0 ∧ getE e 6 = v6 ∧ getE e 7 = .ptr 6 6 0 ∧ getE e 8 = v8 ∧ getE e 9 = .int .i64 0 ∧ getE e 11 = enS fB 1 (visB n r) (.c (some n)) ∧ getE e 12 = .sl 8 g12 1 0 (Zbd s r).length none ∧ getE e 13 = .int .i64 s) ∧ H = x0 :: x1 :: x2 :: x3 :: x4 :: x5 :: x6 :: x7 :: some (g12, grO fI (Zbd s r)) :: K) _ ?_ n e _ g ⟨0, g12, [], by omega, h, rfl⟩
  rintro k1 e H g ⟨s, g12, K, hk, ⟨he, h5, h6, h7, h8, h9, h11, h12, h13⟩, rfl⟩
  unfold Ygm
  have w1 : IntKind.i64.wrap ((s : Int) + 1) = ((s + 1 : Nat) : Int) := by rw [Zay (by omega) (by omega)]; rfl
  have l2 := Zcr n r
  by_cases hlt : s < n
  · have g2 := Zes (vis := r) hlt
    have hrs := Zhy s r
    have hrl := Zhd s r
    cases hlk : lk r s with
    | none =>
      rw [hlk] at g2 hrs
      simp only [Option.isSome_none, Bool.false_eq_true, if_false] at g2 hrs
      rw [← hrs] at h12 ⊢
      simp (disch := first | exact dJ | fail) only [go_sem, Nat.reduceAdd, Nat.reduceMul, Nat.reduceSub, Nat.reduceLeDiff, Nat.reduceLT, Nat.reduceEqDiff, h5, h6, h7, h8, h9, h11, h12, h13, he, w1, Zan, Zaf, Zai, List.getD_cons_zero, Zam, Zao, Zap, Zah, Zaj, Zae, Zad, Zag, Zeq, l2, g2]
      exact ⟨_, _, _, _, rfl, .inl ⟨rfl, k1 - 1, by omega, s + 1, g12, _, by omega, ⟨gQ he, gQ h5, gQ h6, gQ h7, gQ h8, gQ h9, gQ h11, gQ h12, gQ he⟩, rfl⟩⟩
    | some w =>
      rw [hlk] at g2 hrs
      simp only [Option.isSome_some, if_true] at g2 hrs
      generalize hR : Zbd s r = R at *
      simp (disch := first | exact dJ | fail) only [go_sem, Nat.reduceAdd, Nat.reduceMul, Nat.reduceSub, Nat.reduceLeDiff, Nat.reduceLT, Nat.reduceEqDiff, h5, h6, h7, h8, h9, h11, h12, h13, he, w1, Zan, Zaf, Zai, List.getD_cons_zero, Zam, Zao, Zap, Zah, Zaj, Zae, Zad, Zag, Zeq, l2, g2]
      refine ⟨_, _, _, _, rfl, .inl ⟨rfl, k1 - 1, by omega, s + 1, g + 1, _, by omega, ?_, by rw [hrs] <;> rfl⟩⟩
      rw [hrs, List.length_append]
      exact ⟨gQ he, gQ h5, gQ h6, gQ h7, gQ h8, gQ h9, gQ h11, gQ he, gQ he⟩
  · have hs : s = n := by omega
    subst hs
    simp (disch := first | exact dJ | fail) only [go_sem, Nat.reduceAdd, Nat.reduceMul, Nat.reduceSub, Nat.reduceLeDiff, Nat.reduceLT, Nat.reduceEqDiff, h5, h6, h7, h8, h9, h11, h12, h13, he, w1, Zan, Zaf, Zai, List.getD_cons_zero, Zam, Zao, Zap, Zah, Zaj, Zae, Zad, Zag, l2]
    exact ⟨_, _, _, _, rfl, .inr ⟨by simp, rfl, g12, rfl, gQ he, gQ h5, gQ h6, gQ h7, gQ h8, gQ h9, gQ h11, gQ h12, gQ h13⟩⟩
end
theorem f81 (S I O : Nat) (p : Bool) (es : List Nat) (ke : SC) (hes : ∀ i, es.getD i 0 < 65536) (ss : List Nat) (ks : SC) (hss : ∀ i, ss.getD i 0 < 256) : Zaq AP (X AP) false 81 [.agg [.int .u8 S, .int .u8 I, .int .u8 O, .bool p, enS (fN .u16) 1 es ke], .agg [enS (fN .u8) 1 ss ks]] = some (.bool true, none) := by
  have hm := Zmg S I O p es
  have c2 := f2 S I O p es ke hes
  have hl := Zdl (1 + S % 6) (1 + I % 3) (1 + O % 3) p es (1 + S % 6)
  generalize Zfb (1 + S % 6) (1 + I % 3) (1 + O % 3) p es (1 + S % 6) = rows at *
  have hn6 : 1 + S % 6 ≤ 6 := by omega
  generalize 1 + I % 3 = ins at *
  generalize 1 + O % 3 = outs at *
  generalize 1 + S % 6 = n at *
  subst hl
  have hn1 := hm.n1
  have hi1 := hm.i1
  have hi2 := hm.i2
  obtain ⟨r, hr, hI⟩ := Fifo.run (ins := ins) hm (fr := (0 : Nat)) ⟨by omega, by omega⟩
  have hrl : r.length ≤ 6 := by have := hI.num; omega
  have hC := Zph hm hr hI
  have hrc := Zhd rows.length r
  have hoL := (Zfu hI.good).length_eq
  rw [Zdu] at hoL
  have hr0 : r ≠ [] := by intro h; have := hC.len; rw [← hoL, h] at this; simp at this
  have c4 := f4 (k := .n) (k' := .n) (outs := outs) hm hr
  have c27 := f27 (k := .n) (k' := .n) (outs := outs) hm hI.good (by omega) hr hr0
  have c10 := f10 (k := .n) (k' := .n) (outs := outs) hm (L := Zbd rows.length r) (by omega) hC.ne hC.rng c27
  rw [Zkl hm hC] at c10
  have c30 := f30
  have hw : Wd ins (Zef ss ins) := by
    intro x hx
    obtain ⟨y, hy, rfl⟩ := List.mem_map.mp hx
    have := Nat.mod_lt y (show 0 < ins by omega)
    omega
  have hwl : (Zef ss ins).length ≤ 12 := by unfold Zef; simp; omega
  have c9 := f9 ss ks hss (ins := ins) (by omega) hi2
  have hok := Zfq hm hC (by omega)
  have c80 := f80 (k := .c (some (Zbd rows.length r).length)) (k' := .c (some ins)) hok
  rw [decide_eq_true (Zlz hm hI hC (by omega) hoL.symm (fun x hx => by
    unfold Zbd at hx
    obtain ⟨t, ht, rfl⟩ := List.mem_map.mp hx
    exact ⟨t, rfl, (List.mem_filter.mp ht).2⟩))] at c80
  have h00 : (0 : Int) ∈ Zbd rows.length r := by
    have := Zci (0 : Int) (l := Zbd rows.length r) (j := 0) (by have := hC.len; omega)
    rw [hC.zero] at this; exact this
  have c14a := f14 (k := .c (some (Zbd rows.length r).length)) (k' := .c (some ins)) (kw := .n) hok hw (by omega) (s := 0) ⟨by omega, by have := hok.n1; omega⟩
  have c14b := f14 (k := .n) (k' := .n) (kw := .n) hm hw (by omega) (s := 0) ⟨by omega, by omega⟩
  have hrun := Znr hm hC (Zef ss ins) 0 hw (.inl h00)
  rw [hC.pos0] at hrun
  rw [hrun] at c14a
  have hrunl : ∀ (w : Word) (s : Int), (runW rows s w).length = w.length := by
    intro w
    induction w with
    | nil => intro s; rfl
    | cons a w ih => intro s; simp [runW, ih]
  have c15 := f15 (runW rows 0 (Zef ss ins)) (runW rows 0 (Zef ss ins)) .n .n (by rw [hrunl]; omega)
  rw [decide_eq_true rfl] at c15
  have c35 := f35 (k := .n) (k' := .n) hm (l := Zbd rows.length r) (kl := .c none) (by omega) hC.rng
  have hlen : (Zbs rows ins (Zbd rows.length r)).length = (Zbd rows.length r).length := Zcx
  have c13 := f13 (ins := ins) (outs := outs) (i2 := ins) (o2 := outs) (rows := Zbs rows ins (Zbd rows.length r)) (r2 := Zbs rows ins (Zbd rows.length r)) (q := .n) (q' := .n) (by rw [hlen]; omega) (c := ins) (by omega) (fun s hs => by rw [hlen] at hs; exact Zih hs)
  rw [decide_eq_true ⟨rfl, rfl, rfl⟩, hlen] at c13
  have c8 := f8 (l := Zbd rows.length r) (kl := .c (some (Zbd rows.length r).length)) (kw := .c none) (n := 0) (by omega) rfl
  have hRne := hC.ne
  have hRl : (Zbd rows.length r).length ≤ 6 := by omega
  clear hC hok hI hr hoL h00 hrun
  generalize hP : Zbs rows ins (Zbd rows.length r) = PP at *
  clear hP
  obtain ⟨e, he, hg, hx⟩ := Zat AP81 (args := [.agg [.int .u8 S, .int .u8 I, .int .u8 O, .bool p, enS (fN .u16) 1 es ke], .agg [enS (fN .u8) 1 ss ks]]) rfl (by decide)
  have he : e.length = 73 := he
  have h0 : getE e 0 = .agg [.int .u8 S, .int .u8 I, .int .u8 O, .bool p, enS (fN .u16) 1 es ke] := hg 0 (by simp only [List.length_cons]; omega)
  have h1 : getE e 1 = .agg [enS (fN .u8) 1 ss ks] := hg 1 (by simp only [List.length_cons]; omega)
  rw [hx]; clear hx hg; unfold c81
  have l1 := Zcq rows.length r
  have l2 := Zcr rows.length r
  simp (disch := first | exact dJ | fail) only [go_sem, Nat.reduceAdd, Nat.reduceMul, Nat.reduceSub, Nat.reduceLeDiff, Nat.reduceLT, Nat.reduceEqDiff, h0, h1, he, Zan, Zaf, Zai, List.getD_cons_zero, Zam, Zao, Zap, Zah, Zaj, Zae, Zad, Zag, c2, c9, c10, c4, Ycs]
  generalize hE : putE _ _ _ = E
  have hEl : E.length = 73 := by subst hE; simp (disch := first | exact dG | fail) only [Zab, Zaa, Zac, he]
  have p5 : getE E 5 = .ptr 3 3 0 := by subst hE; exact gQ he
  have p6 : getE E 6 = ints (Zef ss ins) .n := by subst hE; exact gQ he
  have p7 : getE E 7 = .ptr 6 6 0 := by subst hE; exact gQ he
  have p8 : getE E 8 = ints (Zbd rows.length r) (.c (some (Zbd rows.length r).length)) := by subst hE; exact gQ he
  have p9 : getE E 9 = .int .i64 0 := by subst hE; exact gQ he
  have p11 : getE E 11 = enS fB 1 (visB rows.length r) (.c (some rows.length)) := by subst hE; exact gQ he
  have p12 : getE E 12 = .sl 8 8 1 0 (0 : Nat) none := by subst hE; exact gQ he
  have p13 : getE E 13 = .int .i64 (0 : Nat) := by subst hE; exact gZ he
  clear hE
  obtain ⟨ex, e1, H1, g1, hx, rfl, g12, rfl, he1, q5, q6, q7, q8, q9, q11, q12, q13⟩ := L81_1 (r := r) (x0 := some (0, AM.O.cells [V.int IntKind.u8 ↑S, V.int IntKind.u8 ↑I, V.int IntKind.u8 ↑O, V.bool p, enS (fN IntKind.u16) 1 es ke] Kd.fixed)) (x1 := some (1, AM.O.cells [enS (fN IntKind.u8) 1 ss ks] Kd.fixed)) (x2 := none) (x3 := some (3, oM .n .n ins outs rows)) (x4 := none) (x5 := none) (x6 := some (6, oM (.c (some (Zbd rows.length r).length)) (.c (some ins)) ins outs PP)) (x7 := none) (n := rows.length) (g12 := 8) (g := 9) (by omega) ⟨hEl, p5, p6, p7, p8, p9, p11, p12, p13⟩
  rw [hx]
  clear hx
  generalize hR : Zbd rows.length r = R at *
  have hgr : grO fI R = .cells (R.flatMap fI) .loose := by
    cases R with
    | nil => exact absurd rfl hRne
    | cons a t => rfl
  have hfl : R.length * 1 = (R.flatMap fI).length := by rw [Zbn (f := fI)]
  have hfp := Zdd (f := fI) R
  have c8' : Zaq AP (X AP) false 8 [ints R (.c (some R.length)), .int .i64 0, .arr (R.flatMap fI) 1 R.length none, .int .i64 0] = some (.bool true, none) := c8
  have iso8 : ∀ (own : List (Nat × Nat)) (id g : Nat) (H : Heap) (x : Opd) (ys : List Opd), getH H 8 g12 = some (.cells (R.flatMap fI) .loose) → opR AP own id g (.call .iso x ys) [.fn 8 [] [], ints R (.c (some R.length)), .int .i64 0, .sl 8 g12 1 0 R.length none, .int .i64 0] H = some (.bool true, H, [8], []) := fun own id g H x ys hg => by
    rw [Zor x ys 8 _ [ints R (.c (some R.length)), .int .i64 0, .arr (R.flatMap fI) 1 R.length none, .int .i64 0] [8] (by
      rw [Zca, Zca, Zca, Zca, Zde, Zdx (Zcf ..), Zdx (Zbe ..), Zfr, hg, Zdg rfl hfl hfp]; rfl) (by simp [Zax, Zcf, Zft, Zbe])]
    rw [c8']; exact Zdf ..
  have c35' : Zaq AP (X AP) false 35 [encM .n .n ins outs rows, .arr (R.flatMap fI) 1 R.length none] = some (encM .n .n ins outs PP, none) := c35
  have frz35 : ∀ (own : List (Nat × Nat)) (id g : Nat) (H : Heap) (x : Opd) (ys : List Opd), getH H 8 g12 = some (.cells (R.flatMap fI) .loose) → frzR AP own id g (.call .iso x ys) [.fn 35 [] [], encM .n .n ins outs rows, .sl 8 g12 1 0 R.length none] H = some (encM .n .n ins outs PP, H.set 8 (some (g12, .cells (R.flatMap fI) .froz)), [8], [8]) := fun own id g H x ys hg => by
    have hA : frzA H [.fn 35 [] [], encM .n .n ins outs rows, .sl 8 g12 1 0 R.length none] = some ([.fn 35 [] [], encM .n .n ins outs rows, .arr (R.flatMap fI) 1 R.length none], H.set 8 (some (g12, .cells (R.flatMap fI) .froz)), [8], [8]) := by
      rw [Zdr _ (by simp [Zed, Zbi]), Zdr _ (by simp [Zfg, Zax, Zbi, Zbe, Zcf]), Zgw, hg, Zfj _ hfl hfp (Zbu hg) rfl, Zha]; rfl
    rw [Ztr _ _ _ _ _ (by simp [Zax, Zft]) (by rw [hA]; rfl), hA, Zig, Zmq _ _ _ _ (by simp [Zax, Zbi, Zfg, Zbe, Zcf, Zhc]), c35', Zfv]
    rfl
  rw [hgr]
  clear hgr hRne c8 c35 c35' c8' hR
  simp (disch := first | exact dK | fail) only [go_sem, Nat.reduceAdd, Nat.reduceMul, Nat.reduceSub, Nat.reduceLeDiff, Nat.reduceLT, Nat.reduceEqDiff, he1, q5, q6, q7, q8, q9, q11, q12, q13, Zan, Zaf, Zai, List.getD_cons_zero, Zam, Zao, Zap, Zah, Zaj, Zae, Zad, Zag, iso8, frz35, c13, c14a, c14b, c15, c30, c80, Zbc, Ycl, Zmz, Zyo, Ztc]
end Go.AM
