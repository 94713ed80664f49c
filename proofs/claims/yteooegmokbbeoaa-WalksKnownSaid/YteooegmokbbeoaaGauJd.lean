/- Complete and connected machines of numbers: the value. -/
import Derived.Test.YteooegmokbbeoaaGauJc
set_option linter.unusedVariables false
set_option linter.unusedSimpArgs false
namespace Go.AM
theorem Zqn {m d : Nat} : ∀ (gs : List Nat) (rs : List (List (Int × Int))) (b : Nat) (H : Heap) (k : List V → Plan), gs.length = rs.length → (∀ j g, gs[j]? = some g → getH H (b + 3 * j) g = some (.cells ((rs.getD j []).flatMap fE) .loose)) → (∀ r ∈ rs, r.length = m) →
    ∃ H', (runP (Zby (Zav true (d + 1)) (refS m b gs) k) H).map (·.1) = (runP (k (rs.flatMap (fR (.c none)))) H').map (·.1) ∧ H'.length = H.length
  | [], rs, b, H, k, hl, hg, hm => by
    cases rs with
    | nil => exact ⟨H, rfl, rfl⟩
    | cons a t => simp at hl
  | g :: gs, rs, b, H, k, hl, hg, hm => by
    cases rs with
    | nil => simp at hl
    | cons r rs =>
      have h0 := hg 0 g rfl
      simp only [Nat.mul_zero, Nat.add_zero, List.getD_cons_zero] at h0
      have hr := hm r List.mem_cons_self
      obtain ⟨H', h1, h3⟩ := Zqn (d := d) gs rs (b + 3) (H.set b (some (g, .cells (r.flatMap fE) .froz))) (fun vs => k (enS fE 2 r (.c none) :: vs)) (by simpa using hl)
        (fun j g' hj => by rw [Zal _ (by omega)]; have := hg (j + 1) g' (by simpa using hj); rw [show b + 3 + 3 * j = b + 3 * (j + 1) by omega]; simpa using this) (fun r hr => hm r (List.mem_cons_of_mem _ hr))
      refine ⟨H', ?_, by rw [h3, List.length_set]⟩
      simp only [refS, Zby]
      rw [Zgo (f := fE) d b g none r .loose _ rfl hr.symm h0]
      rw [Option.map_map]
      simp only [List.flatMap_cons]
      rw [show fR (.c none) r ++ rs.flatMap (fR (.c none)) = enS fE 2 r (.c none) :: rs.flatMap (fR (.c none)) from rfl, ← h1]
      rfl
theorem Ztx {H : Heap} {i gi n m b : Nat} {a1 a2 : V} {gs : List Nat} {rs : List (List (Int × Int))} (h1 : Zak a1 = true) (h2 : Zak a2 = true) (hn : n = rs.length) (hne : rs ≠ []) (hl : gs.length = rs.length) (hg : getH H i gi = some (.cells (refS m b gs) .loose))
    (hr : ∀ j g, gs[j]? = some g → getH H (b + 3 * j) g = some (.cells ((rs.getD j []).flatMap fE) .loose)) (hm : ∀ r ∈ rs, r.length = m) : frzO H (some (.agg [a1, a2, .sl i gi 1 0 n none])) = some (.agg [a1, a2, enS (fR (.c none)) 1 rs (.c none)], none) := by
  have hi := Zbu hg
  have hrl := Zno m b gs
  unfold frzO Zdm
  simp only
  have hnp : Zak.pureL (refS m b gs) = false := by
    cases gs with
    | nil => simp at hl; exact absurd (List.eq_nil_of_length_eq_zero hl.symm) hne
    | cons g gs => simp [refS, Zax, Zak]
  have e1 : (runP (Zav true 9 (.agg [a1, a2, .sl i gi 1 0 n none]) .ret) H).map (·.1) = some (.agg [a1, a2, enS (fR (.c none)) 1 rs (.c none)]) := by
    rw [Zav]
    simp only [Zak, Zak.pureL, h1, h2, Bool.true_and, Bool.and_true, Bool.false_eq_true, if_false, Zby, Zcn _ _ _ h1, Zcn _ _ _ h2]
    rw [Zav]
    have hle : 0 + n * 1 ≤ (refS m b gs).length := by omega
    simp only [Zak, Bool.false_eq_true, if_false, runP, hg, hle, if_true, hnp]
    obtain ⟨H', q1, q3⟩ := Zqn (d := 6) gs rs b H (fun cs' => frzK true i gi 1 0 n none .loose (fun v => .ret (.agg [a1, a2, v])) cs') hl hr hm
    have q4 : runP (frzK true i gi 1 0 n none .loose (fun v => .ret (.agg [a1, a2, v])) (rs.flatMap (fR (.c none)))) H' = some (.agg [a1, a2, .arr (cut (rs.flatMap (fR (.c none))) 0 (n * 1)) 1 n none], H'.set i (some (gi, .cells (rs.flatMap (fR (.c none))) .froz)), [], [i]) := by
      unfold frzK
      simp only [if_true, runP, show i < H'.length by omega]
    rw [q4] at q1
    have hc : cut (rs.flatMap (fR (.c none))) 0 (n * 1) = rs.flatMap (fR (.c none)) := by subst hn; exact Zbt (f := fR (.c none)) (sz := 1) (fun _ => rfl) rs
    rw [hc] at q1
    simp only [Option.map_some] at q1
    cases hx : runP (Zby (Zav true 7) (refS m b gs) (fun cs' => frzK true i gi 1 0 n none .loose (fun v => .ret (.agg [a1, a2, v])) cs')) H with
    | none => rw [hx] at q1; cases q1
    | some q =>
      rw [hx] at q1
      simp only [Option.map_some, Option.some.injEq] at q1 ⊢
      rw [q1]
      subst hn
      rfl
  cases hx : runP (Zav true 9 (.agg [a1, a2, .sl i gi 1 0 n none]) .ret) H with
  | none => rw [hx] at e1; cases e1
  | some q =>
    rw [hx] at e1
    simp only [Option.map_some, Option.some.injEq] at e1
    obtain ⟨v', r⟩ := q
    simp only at e1
    rw [e1]
theorem Zqo {n ins outs : Nat} {es : List Nat} {a b : Nat} (ha : a < n) (hb : b < ins) : edg ((List.range n).map (Zjb n ins outs es)) a b = (-1, ((es.getD (a * ins + b) 0 / n % outs : Nat) : Int)) := by
  unfold edg Zjb
  rw [List.getD_eq_getElem?_getD (l := List.map _ _)]
  simp [ha, hb, List.getD_eq_getElem?_getD]
theorem Ybq {n ins outs : Nat} {es : List Nat} (hn : 1 ≤ n) (ho : 1 ≤ outs) : G39 n ins outs 1 ((List.range n).map (Zjb n ins outs es)) := by
  refine ⟨by simp, fun j hj => by simp [Zjb, List.getD_eq_getElem?_getD, hj], fun a ha b hb => ?_, fun t h1 h2 => absurd h1 (by omega)⟩
  rw [Zqo ha hb]
  have := Nat.mod_lt (es.getD (a * ins + b) 0 / n) (show outs > 0 by omega)
  refine ⟨Int.le_refl (-1), by show (-1 : Int) < n; omega, Int.natCast_nonneg _, ?_⟩
  exact Int.ofNat_lt.mpr this
theorem Zqj {n ins outs : Nat} {es : List Nat} (hi : 1 ≤ ins) : ∀ m, m ≤ n * ins → (Zfh ((List.range n).map (Zjb n ins outs es)) ins m).length = m
  | 0, _ => rfl
  | m + 1, h => by
    have ih := Zqj (n := n) (outs := outs) (es := es) hi m (by omega)
    have ha : m / ins < n := (Nat.div_lt_iff_lt_mul (by omega)).mpr (by omega)
    have hb : m % ins < ins := Nat.mod_lt _ (by omega)
    rw [Zhe, Zqo ha hb, if_pos (show (-1 : Int) < 0 by decide), List.length_append, ih]
    rfl
/-- What is drawn. -/
structure K39 (S I O : Nat) (rs : List (List (Int × Int))) : Prop where
  g : G39 (1 + S % 6) (1 + I % 3) (1 + O % 3) (1 + S % 6) rs
  d : Done rs (1 + I % 3) (1 + S % 6) 0

theorem f39 {S I O : Nat} (tr es : List Nat) (kt ke : SC) (hS : S < 256) (hI : I < 256) (hO : O < 256) (htr : ∀ i, tr.getD i 0 < 256) (hes : ∀ i, es.getD i 0 < 65536) : ∃ rs, K39 S I O rs ∧ Zaq AP (X AP) false 39 [.agg [.int .u8 S, .int .u8 I, .int .u8 O, enS (fN .u8) 1 tr kt, enS (fN .u16) 1 es ke]] = some (encM (.c none) (.c none) (1 + I % 3 : Nat) (1 + O % 3 : Nat) rs, none) := by
  obtain ⟨e, he, hg, hx⟩ := Zat AP39 (args := [.agg [.int .u8 S, .int .u8 I, .int .u8 O, enS (fN .u8) 1 tr kt, enS (fN .u16) 1 es ke]]) rfl (by decide)
  have he : e.length = 178 := he
  have h0 : getE e 0 = .agg [.int .u8 S, .int .u8 I, .int .u8 O, enS (fN .u8) 1 tr kt, enS (fN .u16) 1 es ke] := hg 0 (by simp only [List.length_cons]; omega)
  rw [hx]; clear hx hg; unfold c39
  have d6 : ∀ x : Nat, (x : Int).tmod 6 = ((x % 6 : Nat) : Int) := fun x => Zfe x 6
  have d3 : ∀ x : Nat, (x : Int).tmod 3 = ((x % 3 : Nat) : Int) := fun x => Zfe x 3
  have v6 : ∀ x : Nat, IntKind.i64.wrap ((x % 6 : Nat) : Int) = ((x % 6 : Nat) : Int) := fun x => Zfy (by omega)
  have v3 : ∀ x : Nat, IntKind.i64.wrap ((x % 3 : Nat) : Int) = ((x % 3 : Nat) : Int) := fun x => Zfy (by omega)
  have u6 : ∀ x : Nat, IntKind.i64.wrap (1 + ((x % 6 : Nat) : Int)) = ((1 + x % 6 : Nat) : Int) := fun x => by rw [Zay (by omega) (by omega)]; omega
  have u3 : ∀ x : Nat, IntKind.i64.wrap (1 + ((x % 3 : Nat) : Int)) = ((1 + x % 3 : Nat) : Int) := fun x => by rw [Zay (by omega) (by omega)]; omega
  have n1 : 1 ≤ 1 + S % 6 := by omega
  have n2 : 1 + S % 6 ≤ 64 := by omega
  have i1 : 1 ≤ 1 + I % 3 := by omega
  have i2 : 1 + I % 3 ≤ 16 := by omega
  have o1 : 1 ≤ 1 + O % 3 := by omega
  simp (disch := first | exact dK | fail) only [go_sem, Nat.reduceAdd, Nat.reduceMul, Nat.reduceSub, Nat.reduceLeDiff, Nat.reduceLT, Nat.reduceEqDiff, h0, he, Zan, Zaf, Zai, List.getD_cons_zero, Zam, Zao, Zap, Zah, Zaj, Zae, Zad, Zag, d6, d3, v6, v3, u6, u3, Zbc]
  generalize hE : putE _ _ _ = E
  have hEl : E.length = 178 := by subst hE; simp (disch := first | exact dG | fail) only [Zab, Zaa, Zac, he]
  have p1 : getE E 1 = .ptr 0 0 0 := by subst hE; exact gQ he
  have p2 : getE E 2 = .ptr 1 1 0 := by subst hE; exact gQ he
  have p3 : getE E 3 = .int .i64 (1 + S % 6 : Nat) := by subst hE; exact gQ he
  have p4 : getE E 4 = .ptr 2 2 0 := by subst hE; exact gQ he
  have p5 : getE E 5 = .int .i64 (0 : Nat) := by subst hE; exact gZ he
  clear hE
  obtain ⟨n, hn⟩ : ∃ n, n = 1 + S % 6 := ⟨_, rfl⟩
  obtain ⟨ins, hi⟩ : ∃ n, n = 1 + I % 3 := ⟨_, rfl⟩
  obtain ⟨outs, ho⟩ : ∃ n, n = 1 + O % 3 := ⟨_, rfl⟩
  have hK : ∀ rs, G39 n ins outs n rs → Done rs ins n 0 → K39 S I O rs := fun rs h1 h2 => by subst hn hi ho; exact ⟨h1, h2⟩
  rw [← hn] at n1 n2 p3
  rw [← hi] at i1 i2
  rw [← ho] at o1
  rw [← hi, ← ho]
  obtain ⟨ex, e1, H1, g1, hx, rfl, ⟨g4, gs, hI1⟩, he1, q1, q2, q3, q4⟩ := L39_1 (S := S) (I := I) (O := O) (tr := tr) (kt := kt) (ke := ke) (n := n) (ins := ins) (outs := outs) (g4 := 4) hes n1 n2 i1 o1 i2
    (H := [some (0, bx39 S I O tr kt es ke), some (1, .cells [.int .i64 0, .int .i64 0, .nils] .fixed), some (2, .cells [.int .i64 ins, .int .i64 outs, .sl 4 4 1 0 0 none] .fixed), some (3, .cells [] .nilo), some (4, .cells [] .nilo)])
    ⟨rfl, rfl, rfl, by simp, rfl, rfl, rfl, rfl, by intro i g h; simp at h⟩ (g := 5) ⟨hEl, p1, p2, p3, p4, p5⟩
  rw [hx]
  clear hx
  simp (disch := first | exact dK | fail) only [go_sem, Nat.reduceAdd, Nat.reduceMul, Nat.reduceSub, Nat.reduceLeDiff, Nat.reduceLT, Nat.reduceEqDiff, q1, q2, q3, q4, he1, Zan, Zaf, Zai, List.getD_cons_zero, Zam, Zao, Zap, Zah, Zaj, Zae, Zad, Zag, Zbc]
  generalize hE : putE _ _ _ = E
  have hEl : E.length = 178 := by subst hE; simp (disch := first | exact dG | fail) only [Zab, Zaa, Zac, he1]
  have r1 : getE E 1 = .ptr 0 0 0 := by subst hE; exact gQ q1
  have r2 : getE E 2 = .ptr 1 1 0 := by subst hE; exact gQ q2
  have r3 : getE E 3 = .int .i64 n := by subst hE; exact gQ q3
  have r4 : getE E 4 = .ptr 2 2 0 := by subst hE; exact gQ q4
  have r9 : getE E 9 = .int .i64 (1 : Nat) := by subst hE; simp (disch := first | exact dG | fail) only [Zab, Zaa, Zac, he1, Int.natCast_one]
  clear hE
  obtain ⟨ex, e2, H2, g2, hx, rfl, ⟨rs2, hI2, hG2⟩, he2, s1, s2, s3, s4⟩ := L39_3 htr i1 i2 n1 n2 hI1 (Ybq (es := es) n1 o1) (Zqj (es := es) i1) rfl (g := g1) ⟨hEl, r1, r2, r3, r4, r9⟩
  rw [hx]
  clear hx
  simp (disch := first | exact dK | fail) only [go_sem, Nat.reduceAdd, Nat.reduceMul, Nat.reduceSub, Nat.reduceLeDiff, Nat.reduceLT, Nat.reduceEqDiff, s1, s2, s3, s4, he2, Zan, Zaf, Zai, List.getD_cons_zero, Zam, Zao, Zap, Zah, Zaj, Zae, Zad, Zag, Zbc]
  generalize hE : putE _ _ _ = E
  have hEl : E.length = 178 := by subst hE; simp (disch := first | exact dG | fail) only [Zab, Zaa, Zac, he2]
  have t1 : getE E 1 = .ptr 0 0 0 := by subst hE; exact gQ s1
  have t2 : getE E 2 = .ptr 1 1 0 := by subst hE; exact gQ s2
  have t3 : getE E 3 = .int .i64 n := by subst hE; exact gQ s3
  have t4 : getE E 4 = .ptr 2 2 0 := by subst hE; exact gQ s4
  have t13 : getE E 13 = .int .i64 (0 : Nat) := by subst hE; exact gZ he2
  clear hE
  obtain ⟨ex, e3, H3, g3, hx, rfl, ⟨rs3, hI3, hG3, hD3⟩, he3, u1, u2, u3, u4⟩ := L39_5 hes i1 i2 n1 n2 rfl hI2 hG2 (g := g2) ⟨hEl, t1, t2, t3, t4, t13⟩
  rw [hx]
  clear hx
  refine ⟨rs3, hK rs3 hG3 hD3, ?_⟩
  obtain ⟨z1, z2, z3, z4, z5, z6, z7, z8, z9⟩ := hI3
  simp (disch := first | exact dK | fail) only [go_sem, Nat.reduceAdd, Nat.reduceMul, Nat.reduceSub, Nat.reduceLeDiff, Nat.reduceLT, Nat.reduceEqDiff, u1, u2, u3, u4, he3, z7, z6, Zan, Zaf, Zai, List.getD_cons_zero, Zam, Zao, Zap, Zah, Zaj, Zae, Zad, Zag, Zbc]
  have hne : gs ≠ [] := fun e => by rw [e] at z2; simp at z2; omega
  refine Ztx (b := 5) (gs := gs) (Zbe ..) (Zbe ..) z3.symm (fun e => by rw [e] at z3; simp at z3; omega) (by rw [z2, z3]) ?_ ?_ z4
  · rw [Zal _ (by decide), z8]
    unfold Znt
    cases gs with
    | nil => exact absurd rfl hne
    | cons a t => rfl
  · intro j g hj
    rw [Zal _ (by omega)]; exact z9 j g hj
/-- All edges are within the machine. -/
theorem K39.okm {S I O : Nat} {rs : List (List (Int × Int))} (h : K39 S I O rs) : OKM (1 + I % 3) (1 + O % 3) rs := by
  obtain ⟨⟨h1, h2, h3, h4⟩, h5, _⟩ := h
  refine ⟨by omega, by omega, by omega, by omega, by omega, by omega, fun s hs => h2 s (by omega), fun s hs i hi => .inr ?_⟩
  have := h3 s (by omega) i hi
  have := h5 s (by omega) i hi
  rw [h1]
  omega
theorem K39.len {S I O : Nat} {rs : List (List (Int × Int))} (h : K39 S I O rs) : rs.length = 1 + S % 6 := h.g.len
theorem K39.all {S I O : Nat} {rs : List (List (Int × Int))} (h : K39 S I O rs) : ∀ a, a < rs.length → ∀ b, b < 1 + I % 3 → 0 ≤ (edg rs a b).1 := by
  rw [h.len]; exact h.d.1
end Go.AM
