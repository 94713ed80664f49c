/- Complete and connected machines of numbers: the tree, and the other edges. -/
import Derived.Test.YteooegmokbbeoaaGauJa
set_option linter.unusedVariables false
set_option linter.unusedSimpArgs false
namespace Go.AM
section
variable {bx : AM.O} {ins outs n g4 : Nat} {gs : List Nat} {rs : List (List (Int × Int))} {H : Heap}
/-- What is read of rows under way. -/
theorem I39.row (h : I39 bx ins outs n g4 gs rs H) {a : Nat} (ha : a < n) : ∃ g, ldC 1 false (a * 1) (refS ins 5 gs) = some (.sl (5 + 3 * a) g 2 0 ins none) ∧ getH H (5 + 3 * a) g = some (.cells ((rs.getD a []).flatMap fE) .loose) ∧ gs[a]? = some g ∧ (rs.getD a []).length = ins := by
  have hg : a < gs.length := by rw [h.gl]; exact ha
  refine ⟨gs[a], ?_, h.ar a _ (List.getElem?_eq_getElem hg), List.getElem?_eq_getElem hg, ?_⟩
  · rw [Nat.mul_one]; exact Ygj ins 5 gs a _ (List.getElem?_eq_getElem hg)
  · apply h.rm
    rw [List.getD_eq_getElem?_getD, List.getElem?_eq_getElem (by rw [h.rl]; exact ha)]
    exact List.getElem_mem _
/-- An edge that is set. -/
def setE (rs : List (List (Int × Int))) (a b : Nat) (to : Int) : List (List (Int × Int)) := rs.set a ((rs.getD a []).set b (to, (edg rs a b).2))
theorem I39.set (h : I39 bx ins outs n g4 gs rs H) {a b g : Nat} {to : Int} (ha : a < n) (hb : b < ins) (hg : gs[a]? = some g) : I39 bx ins outs n g4 gs (setE rs a b to) (H.set (5 + 3 * a) (some (g, .cells (((rs.getD a []).set b (to, (edg rs a b).2)).flatMap fE) .loose))) := by
  obtain ⟨z1, z2, z3, z4, z5, z6, z7, z8, z9⟩ := h
  have hra : rs.getD a [] ∈ rs := by
    rw [List.getD_eq_getElem?_getD, List.getElem?_eq_getElem (by omega)]
    exact List.getElem_mem _
  refine ⟨by rw [List.length_set]; exact z1, z2, by unfold setE; rw [List.length_set]; exact z3, ?_, ?_, ?_, ?_, ?_, ?_⟩
  · intro r hr
    rcases List.mem_or_eq_of_mem_set hr with hr | rfl
    · exact z4 r hr
    · rw [List.length_set]; exact z4 _ hra
  · rw [Zal _ (by omega)]; exact z5
  · rw [Zal _ (by omega)]; exact z6
  · rw [Zal _ (by omega)]; exact z7
  · rw [Zal _ (by omega)]; exact z8
  · intro i gi hi
    by_cases e : i = a
    · subst e
      rw [hg] at hi
      cases hi
      rw [Zas _ (by omega)]
      unfold setE
      rw [List.getD_eq_getElem?_getD (l := rs.set _ _), List.getElem?_set_self (by omega)]
      rfl
    · rw [Zal _ (by omega), z9 i gi hi]
      unfold setE
      rw [List.getD_eq_getElem?_getD (l := rs.set _ _), List.getElem?_set_ne (by omega), ← List.getD_eq_getElem?_getD]
/-- The free edges among the first ones. -/
def Zfh (rs : List (List (Int × Int))) (ins k : Nat) : List Int := ((List.range k).filter fun k => decide ((edg rs (k / ins) (k % ins)).1 < 0)).map fun (k : Nat) => (k : Int)
theorem Zhe (rs : List (List (Int × Int))) (ins k : Nat) : Zfh rs ins (k + 1) = if (edg rs (k / ins) (k % ins)).1 < 0 then Zfh rs ins k ++ [(k : Int)] else Zfh rs ins k := by
  unfold Zfh
  rw [List.range_succ, List.filter_append, List.map_append]
  by_cases h : (edg rs (k / ins) (k % ins)).1 < 0
  · simp [h]
  · simp [h]
theorem Zok (rs : List (List (Int × Int))) (ins k : Nat) : (Zfh rs ins k).length ≤ k := by
  unfold Zfh
  rw [List.length_map]
  have := List.length_filter_le (fun k => decide ((edg rs (k / ins) (k % ins)).1 < 0)) (List.range k)
  simpa using this
theorem Zxw {l : List (Int × Int)} {i : Nat} (h : i < l.length) : ldC 1 false (i * 2 + 0) (l.flatMap fE) = some (.int .i64 (l.getD i (0, 0)).1) := Zah h
theorem L39_4 (hI : I39 bx ins outs n g4 gs rs H) (hi1 : 1 ≤ ins) (hi16 : ins ≤ 16) (hn64 : n ≤ 64) {s : Nat} (hs : s ≤ n) {bb gf : Nat} (hb : H.length = bb) {e : List V} {g : Nat} (h : e.length = 178 ∧ getE e 1 = .ptr 0 0 0 ∧ getE e 2 = .ptr 1 1 0 ∧ getE e 3 = .int .i64 n ∧ getE e 4 = .ptr 2 2 0 ∧ getE e 9 = .int .i64 s ∧ getE e 10 = .sl bb gf 1 0 (0 : Nat) none ∧ getE e 11 = .int .i64 (0 : Nat)) :
    ∃ ex e' H' g', X AP (.inl (some (H.length + 1)) Ygl) ⟨e, H ++ [some (gf, .cells [] .nilo)], g, none⟩ = some (ex, ⟨e', H', g', none⟩) ∧ ex = .exit 6 ∧ ∃ gf, H' = H ++ [some (gf, grO fI (Zfh rs ins (s * ins)))] ∧ (e'.length = 178 ∧ getE e' 1 = .ptr 0 0 0 ∧ getE e' 2 = .ptr 1 1 0 ∧ getE e' 3 = .int .i64 n ∧ getE e' 4 = .ptr 2 2 0 ∧ getE e' 9 = .int .i64 s ∧ getE e' 10 = .sl bb gf 1 0 (Zfh rs ins (s * ins)).length none) := by
  have hsi : s * ins ≤ 1024 := Nat.mul_le_mul (by omega : s ≤ 64) hi16
  refine Zbx (fun k1 e H' g => ∃ (kk gf : Nat) (K : Heap), k1 + kk = s * ins ∧ (e.length = 178 ∧ getE e 1 = .ptr 0 0 0 ∧ getE e 2 = .ptr 1 1 0 ∧ getE e 3 = .int .i64 n ∧ getE e 4 = .ptr 2 2 0 ∧ getE e 9 = .int .i64 s ∧ getE e 10 = .sl bb gf 1 0 (Zfh rs ins kk).length none ∧ getE e 11 = .int .i64 kk) ∧ H' = H ++ some (gf, grO fI (Zfh rs ins kk)) :: K) _ ?_ (s * ins) e _ g ⟨0, gf, [], by omega, h, rfl⟩
  rintro k1 e H' g ⟨kk, gf, K, hk, ⟨he, h1, h2, h3, h4, h9, h10, h11⟩, rfl⟩
  unfold Ygl
  have w1 : IntKind.i64.wrap ((kk : Int) + 1) = ((kk + 1 : Nat) : Int) := by rw [Zay (by omega) (by omega)]; rfl
  have w2 : IntKind.i64.wrap ((s : Int) * (ins : Int)) = ((s * ins : Nat) : Int) := by rw [← Int.natCast_mul, Zay (by omega) (by omega)]
  have hT : ∀ x, (H ++ x :: K).take (H.length + 1) = H ++ [x] := fun x => by rw [List.take_append]; simp; exact List.take_of_length_le (by omega)
  have e2 : ∀ K, getH (H ++ K) 2 2 = some (.cells [.int .i64 ins, .int .i64 outs, .sl 4 g4 1 0 n none] .fixed) := fun K => (Zar _ (by have := hI.len; omega)).trans hI.a2
  subst hb
  by_cases hlt : kk < s * ins
  · have ha : kk / ins < s := (Nat.div_lt_iff_lt_mul (by omega)).mpr hlt
    have hbm : kk % ins < ins := Nat.mod_lt _ (by omega)
    obtain ⟨ga, r1, r2, r3, r4⟩ := hI.row (a := kk / ins) (by omega)
    have e4 : ∀ K, getH (H ++ K) 4 g4 = some (.cells (refS ins 5 gs) (if (refS ins 5 gs).isEmpty then .nilo else .loose)) := fun K => (Zar _ (by have := hI.len; omega)).trans hI.a4
    have ea : ∀ K, getH (H ++ K) (5 + 3 * (kk / ins)) ga = _ := fun K => (Zar K (by have := hI.len; omega)).trans r2
    have d1 : IntKind.i64.wrap ((kk : Int).tdiv (ins : Int)) = ((kk / ins : Nat) : Int) := by
      rw [Znu, Zfy]; have := Nat.div_le_self kk ins; omega
    have d2 := Zfe kk ins
    have hfs := Zhe rs ins kk
    have hfl := Zok rs ins kk
    have hed : ((rs.getD (kk / ins) []).getD (kk % ins) (0, 0)).1 = (edg rs (kk / ins) (kk % ins)).1 := rfl
    have hlen2 := hI.len
    have hnz : kk / ins < n := by omega
    have lE := Zxw (l := rs.getD (kk / ins) []) (i := kk % ins) (by omega)
    rw [← hed] at hfs
    generalize hL : Zfh rs ins kk = L at *
    clear ha hed
    generalize kk / ins = qa at *
    generalize kk % ins = qb at *
    have gp : ∀ (o : AM.O) K, getH (H ++ some (gf, o) :: K) H.length gf = some o := fun o K => by rw [Zbm]; simp [getH]
    by_cases hq : ((rs.getD qa []).getD qb (0, 0)).1 < 0
    · rw [if_pos hq] at hfs
      simp (disch := first | exact dK | fail) only [go_sem, Nat.reduceAdd, Nat.reduceMul, Nat.reduceSub, Nat.reduceLeDiff, Nat.reduceLT, Nat.reduceEqDiff, h1, h2, h3, h4, h9, h10, h11, he, w1, w2, hT, e2, e4, r1, ea, d1, d2, lE, Zan, Zaf, Zai, List.getD_cons_zero, Zam, Zao, Zap, Zah, Zaj, Zae, Zad, Zag, Zbc, List.append_assoc, gp, Zbr, Zbv, Zdq]
      refine ⟨_, _, _, _, rfl, .inl ⟨rfl, k1 - 1, by omega, kk + 1, _, _, by omega, ?_, by rw [hfs] <;> rfl⟩⟩
      rw [hfs, List.length_append]
      exact ⟨gQ he, gQ h1, gQ h2, gQ h3, gQ h4, gQ h9, gQ he, gQ he⟩
    · rw [if_neg hq] at hfs
      simp (disch := first | exact dK | fail) only [go_sem, Nat.reduceAdd, Nat.reduceMul, Nat.reduceSub, Nat.reduceLeDiff, Nat.reduceLT, Nat.reduceEqDiff, h1, h2, h3, h4, h9, h10, h11, he, w1, w2, hT, e2, e4, r1, ea, d1, d2, lE, Zan, Zaf, Zai, List.getD_cons_zero, Zam, Zao, Zap, Zah, Zaj, Zae, Zad, Zag, Zbc, List.append_assoc, gp, Zbr, Zbv, Zdq]
      refine ⟨_, _, _, _, rfl, .inl ⟨rfl, k1 - 1, by omega, kk + 1, gf, _, by omega, ?_, by rw [hfs] <;> rfl⟩⟩
      rw [hfs]
      exact ⟨gQ he, gQ h1, gQ h2, gQ h3, gQ h4, gQ h9, gQ h10, gQ he⟩
  · have hkk : kk = s * ins := by omega
    subst hkk
    simp (disch := first | exact dK | fail) only [go_sem, Nat.reduceAdd, Nat.reduceMul, Nat.reduceSub, Nat.reduceLeDiff, Nat.reduceLT, Nat.reduceEqDiff, h1, h2, h3, h4, h9, h10, h11, he, w1, w2, hT, e2, Zan, Zaf, Zai, List.getD_cons_zero, Zam, Zao, Zap, Zah, Zaj, Zae, Zad, Zag, Zbc]
    exact ⟨_, _, _, _, rfl, .inr ⟨by simp, rfl, gf, rfl, gQ he, gQ h1, gQ h2, gQ h3, gQ h4, gQ h9, gQ h10⟩⟩
end
theorem Zkk {rs : List (List (Int × Int))} {a b c d : Nat} {to : Int} (ha : a < rs.length) (hb : b < (rs.getD a []).length) : edg (setE rs a b to) c d = if c = a ∧ d = b then (to, (edg rs a b).2) else edg rs c d := by
  unfold setE edg
  rw [List.getD_eq_getElem?_getD (l := rs.set _ _), List.getElem?_set]
  by_cases h1 : a = c
  · subst h1
    rw [if_pos rfl, if_pos ha]
    simp only [Option.getD_some]
    rw [List.getD_eq_getElem?_getD (l := List.set _ _ _), List.getElem?_set]
    by_cases h2 : b = d
    · subst h2
      rw [if_pos rfl, if_pos hb]; simp
    · rw [if_neg h2, if_neg (fun h => h2 h.2.symm), ← List.getD_eq_getElem?_getD]
  · rw [if_neg h1, if_neg (fun h => h1 h.1.symm), ← List.getD_eq_getElem?_getD]
structure G39 (n ins outs s : Nat) (rs : List (List (Int × Int))) : Prop where
  len : rs.length = n
  rm : ∀ j, j < n → (rs.getD j []).length = ins
  val : ∀ a, a < n → ∀ b, b < ins → -1 ≤ (edg rs a b).1 ∧ (edg rs a b).1 < n ∧ 0 ≤ (edg rs a b).2 ∧ (edg rs a b).2 < outs
  tree : ∀ t : Nat, 1 ≤ t → t < s → ∃ a b, a < t ∧ b < ins ∧ (edg rs a b).1 = t
theorem G39.set {n ins outs s : Nat} {rs : List (List (Int × Int))} (h : G39 n ins outs s rs) (hsn : s ≤ n) {a b : Nat} {to : Int} (ha : a < n) (hb : b < ins) (hneg : (edg rs a b).1 < 0) (ht : -1 ≤ to ∧ to < n) : G39 n ins outs s (setE rs a b to) := by
  obtain ⟨h1, h2, h3, h4⟩ := h
  have he := fun c d => Zkk (rs := rs) (a := a) (b := b) (c := c) (d := d) (to := to) (by omega) (by rw [h2 a ha]; exact hb)
  refine ⟨by unfold setE; rw [List.length_set]; exact h1, fun j hj => ?_, fun c hc d hd => ?_, fun t ht1 ht2 => ?_⟩
  · unfold setE
    rw [List.getD_eq_getElem?_getD, List.getElem?_set]
    by_cases e : a = j
    · subst e; rw [if_pos rfl, if_pos (by omega)]; simp only [Option.getD_some, List.length_set]; exact h2 a ha
    · rw [if_neg e, ← List.getD_eq_getElem?_getD]; exact h2 j hj
  · rw [he]
    split
    · have := h3 a ha b hb; exact ⟨ht.1, ht.2, this.2.2⟩
    · exact h3 c hc d hd
  · obtain ⟨c, d, q1, q2, q3⟩ := h4 t ht1 ht2
    refine ⟨c, d, q1, q2, ?_⟩
    rw [he, if_neg]
    · exact q3
    · rintro ⟨rfl, rfl⟩; omega
theorem Zrj {ins k a b : Nat} (hb : b < ins) : (k / ins = a ∧ k % ins = b) ↔ k = a * ins + b := by
  constructor
  · rintro ⟨rfl, rfl⟩
    have := Nat.div_add_mod k ins
    rw [Nat.mul_comm] at this; exact this.symm
  · rintro rfl
    have h0 : 0 < ins := by omega
    rw [Nat.mul_comm a ins, Nat.mul_add_div h0, Nat.mul_add_mod, Nat.div_eq_of_lt hb, Nat.mod_eq_of_lt hb]
    exact ⟨rfl, rfl⟩
theorem Zpu {n ins outs s : Nat} {rs : List (List (Int × Int))} (h : G39 n ins outs s rs) {a b : Nat} {to : Int} (ha : a < n) (hb : b < ins) : ∀ m, (Zfh rs ins m).length ≤ (Zfh (setE rs a b to) ins m).length + (if a * ins + b < m then 1 else 0)
  | 0 => by simp [Zfh]
  | m + 1 => by
    have ih := Zpu h (to := to) ha hb m
    rw [Zhe, Zhe]
    rw [Zkk (by rw [h.len]; exact ha) (by rw [h.rm a ha]; exact hb)]
    have hd := Zrj (ins := ins) (k := m) (a := a) (b := b) hb
    by_cases e : m / ins = a ∧ m % ins = b
    · have e2 := hd.mp e
      rw [if_pos e]
      rw [if_neg (show ¬ a * ins + b < m by omega)] at ih
      rw [if_pos (show a * ins + b < m + 1 by omega)]
      obtain ⟨e3, e4⟩ := e
      split <;> split <;> (try simp only [List.length_append, List.length_cons, List.length_nil]) <;> omega
    · have e2 : m ≠ a * ins + b := fun q => e (hd.mpr q)
      rw [if_neg e]
      have e3 : (if a * ins + b < m + 1 then 1 else 0) = (if a * ins + b < m then 1 else 0 : Nat) := by
        by_cases q : a * ins + b < m
        · rw [if_pos q, if_pos (by omega)]
        · rw [if_neg q, if_neg (by omega)]
      rw [e3]
      split
      · simp only [List.length_append, List.length_cons, List.length_nil]; omega
      · exact ih
theorem Ztm {l : List (Int × Int)} {i : Nat} {a : Int} (h : i < l.length) : Zbf (l.flatMap fE) (i * 2) [.int .i64 a] = (l.set i (a, (l.getD i (0, 0)).2)).flatMap fE := by
  have hc := Zns fE 2 (fun _ => rfl) l i (0, 0) h
  have hs := Zyu (a := a) (b := (l.getD i (0, 0)).2) h
  rw [← hs]
  have hl := Ziz l
  unfold cut at hc
  unfold Zbf
  have hd : (l.flatMap fE).drop (i * 2 + 1) = V.int .i64 (l.getD i (0, 0)).2 :: (l.flatMap fE).drop (i * 2 + 2) := by
    have h1 : (l.flatMap fE).drop (i * 2) = fE (l.getD i (0, 0)) ++ (l.flatMap fE).drop (i * 2 + 2) := by
      rw [← hc, ← List.drop_drop, List.take_append_drop]
    rw [← List.drop_drop, h1]
    simp [fE]
  simp only [List.length_cons, List.length_nil, Nat.zero_add, Nat.reduceAdd]
  rw [hd]
  simp [List.append_assoc]
def Yhj (tr : List Nat) (F : List Int) (s : Nat) : Int := if s - 1 < tr.length then F.getD (tr.getD (s - 1) 0 % F.length) 0 else F.getD 0 0
theorem Zxn {rs : List (List (Int × Int))} {ins m : Nat} {x : Int} (h : x ∈ Zfh rs ins m) : ∃ k : Nat, x = k ∧ k < m ∧ (edg rs (k / ins) (k % ins)).1 < 0 := by
  unfold Zfh at h
  obtain ⟨k, hk, rfl⟩ := List.mem_map.mp h
  obtain ⟨h1, h2⟩ := List.mem_filter.mp hk
  exact ⟨k, rfl, List.mem_range.mp h1, by simpa using h2⟩
section
variable {S I O : Nat} {tr es : List Nat} {kt ke : SC} {ins outs n g4 : Nat} {gs : List Nat}
theorem L39_3 (htr : ∀ i, tr.getD i 0 < 256) (hi1 : 1 ≤ ins) (hi16 : ins ≤ 16) (hn : 1 ≤ n) (hn64 : n ≤ 64) {rs0 : List (List (Int × Int))} {H0 : Heap} (hI0 : I39 (bx39 S I O tr kt es ke) ins outs n g4 gs rs0 H0) (hG0 : G39 n ins outs 1 rs0) (hF0 : ∀ m, m ≤ n * ins → (Zfh rs0 ins m).length = m) {bb : Nat} (hbb : H0.length = bb) {e : List V} {g : Nat} (h : e.length = 178 ∧ getE e 1 = .ptr 0 0 0 ∧ getE e 2 = .ptr 1 1 0 ∧ getE e 3 = .int .i64 n ∧ getE e 4 = .ptr 2 2 0 ∧ getE e 9 = .int .i64 (1 : Nat)) :
    ∃ ex e' H' g', X AP (.inl (some bb) Yhk) ⟨e, H0, g, none⟩ = some (ex, ⟨e', H', g', none⟩) ∧ ex = .exit 4 ∧ (∃ rs, I39 (bx39 S I O tr kt es ke) ins outs n g4 gs rs H' ∧ G39 n ins outs n rs) ∧ (e'.length = 178 ∧ getE e' 1 = .ptr 0 0 0 ∧ getE e' 2 = .ptr 1 1 0 ∧ getE e' 3 = .int .i64 n ∧ getE e' 4 = .ptr 2 2 0) := by
  refine Zbx (fun k1 e H g => ∃ (s : Nat) (rs : List (List (Int × Int))) (H1 K : Heap), k1 + s = n ∧ 1 ≤ s ∧ (e.length = 178 ∧ getE e 1 = .ptr 0 0 0 ∧ getE e 2 = .ptr 1 1 0 ∧ getE e 3 = .int .i64 n ∧ getE e 4 = .ptr 2 2 0 ∧ getE e 9 = .int .i64 s) ∧ H = H1 ++ K ∧ I39 (bx39 S I O tr kt es ke) ins outs n g4 gs rs H1 ∧ G39 n ins outs s rs ∧ (∀ m, m ≤ n * ins → m ≤ (Zfh rs ins m).length + (s - 1))) _ ?_ (n - 1) e _ g ⟨1, rs0, H0, [], by omega, Nat.le_refl _, h, by simp, hI0, hG0, fun m hm => by rw [hF0 m hm]; omega⟩
  rintro k1 e H g ⟨s, rs, H1, K, hk, hs1, ⟨he, h1, h2, h3, h4, h9⟩, rfl, hI, hG, hF⟩
  unfold Yhk
  have hlen := hI.len
  have hl0 := hI0.len
  have hb1 : H1.length = bb := by omega
  have w1 : IntKind.i64.wrap ((s : Int) + 1) = ((s + 1 : Nat) : Int) := by rw [Zay (by omega) (by omega)]; rfl
  have hT : (H1 ++ K).take bb = H1 := by rw [← hb1, List.take_append_of_le_length (Nat.le_refl _), List.take_of_length_le (Nat.le_refl _)]
  by_cases hlt : s < n
  · simp (disch := first | exact dJ | fail) only [go_sem, Nat.reduceAdd, Nat.reduceMul, Nat.reduceSub, Nat.reduceLeDiff, Nat.reduceLT, Nat.reduceEqDiff, h1, h2, h3, h4, h9, he, w1, hT, Zbv]
    rw [hb1]
    generalize hE : putE _ _ _ = E
    have hEl : E.length = 178 := by subst hE; simp (disch := first | exact dG | fail) only [Zab, Zaa, Zac, he]
    have p1 : getE E 1 = .ptr 0 0 0 := by subst hE; exact gQ h1
    have p2 : getE E 2 = .ptr 1 1 0 := by subst hE; exact gQ h2
    have p3 : getE E 3 = .int .i64 n := by subst hE; exact gQ h3
    have p4 : getE E 4 = .ptr 2 2 0 := by subst hE; exact gQ h4
    have p9 : getE E 9 = .int .i64 s := by subst hE; exact gQ h9
    have p10 : getE E 10 = .sl bb g 1 0 (0 : Nat) none := by subst hE; simp (disch := first | exact dG | fail) only [Zab, Zaa, Zac, he, hb1]
    have p11 : getE E 11 = .int .i64 (0 : Nat) := by subst hE; exact gZ he
    clear hE
    obtain ⟨ex, e1, H2, g1, hx, rfl, gf, rfl, he1, q1, q2, q3, q4, q9, q10⟩ := L39_4 hI hi1 hi16 hn64 (s := s) (by omega) hb1 (gf := g) (g := g + 1) ⟨hEl, p1, p2, p3, p4, p9, p10, p11⟩
    rw [hb1] at hx
    rw [hx]
    clear hx
    have hFs := hF (s * ins) (Nat.mul_le_mul_right _ (by omega))
    have hss : s ≤ s * ins := Nat.le_mul_of_pos_right _ (by omega)
    have hFl := Zok rs ins (s * ins)
    have hsi : s * ins ≤ 1024 := Nat.mul_le_mul (by omega : s ≤ 64) hi16
    have hF1 : 1 ≤ (Zfh rs ins (s * ins)).length := by omega
    have hpk : Yhj tr (Zfh rs ins (s * ins)) s ∈ Zfh rs ins (s * ins) := by
      unfold Yhj
      split
      · exact Zci 0 (Nat.mod_lt _ (by omega))
      · exact Zci 0 (by omega)
    obtain ⟨kk, e1k, e2k, e3k⟩ := Zxn hpk
    have ha : kk / ins < s := (Nat.div_lt_iff_lt_mul (by omega)).mpr e2k
    have hbm : kk % ins < ins := Nat.mod_lt _ (by omega)
    obtain ⟨ga, r1, r2, r3, r4⟩ := hI.row (a := kk / ins) (by omega)
    have d1 : IntKind.i64.wrap ((kk : Int).tdiv (ins : Int)) = ((kk / ins : Nat) : Int) := by
      rw [Znu, Zfy]; have := Nat.div_le_self kk ins; omega
    have d2 := Zfe kk ins
    have hIn := hI.set (to := (s : Int)) (a := kk / ins) (b := kk % ins) (by omega) hbm r3
    have hGn := hG.set (by omega) (a := kk / ins) (b := kk % ins) (by omega) hbm e3k (to := (s : Int)) (by omega)
    have hGs : G39 n ins outs (s + 1) (setE rs (kk / ins) (kk % ins) s) := by
      obtain ⟨y1, y2, y3, y4⟩ := hGn
      refine ⟨y1, y2, y3, fun t ht1 ht2 => ?_⟩
      by_cases hts : t < s
      · exact y4 t ht1 hts
      · have : t = s := by omega
        subst this
        refine ⟨kk / ins, kk % ins, ha, hbm, ?_⟩
        rw [Zkk (by rw [hG.len]; omega) (by rw [hG.rm _ (by omega)]; exact hbm), if_pos ⟨rfl, rfl⟩]
    have hFn : ∀ m, m ≤ n * ins → m ≤ (Zfh (setE rs (kk / ins) (kk % ins) (s : Int)) ins m).length + (s + 1 - 1) := fun m hm => by
      have q1 := hF m hm
      have q2 := Zpu hG (a := kk / ins) (b := kk % ins) (to := (s : Int)) (by omega) hbm m
      split at q2 <;> omega
    have hnz : kk / ins < n := by omega
    have w2 : IntKind.i64.wrap ((s : Int) - 1) = ((s - 1 : Nat) : Int) := by rw [Zay (by omega) (by omega)]; omega
    generalize hFF : Zfh rs ins (s * ins) = FF at *
    clear hFs hF hG hGn hFF hpk e2k ha e3k
    have b0 := hI.a0
    have b2 := hI.a2
    have b4 := hI.a4
    unfold Znt at b4
    have e0 : ∀ K, getH (H1 ++ K) 0 0 = _ := fun K => (Zar K (by omega)).trans b0
    have e2 : ∀ K, getH (H1 ++ K) 2 2 = _ := fun K => (Zar K (by omega)).trans b2
    have e4 : ∀ K, getH (H1 ++ K) 4 g4 = _ := fun K => (Zar K (by omega)).trans b4
    have ea : ∀ K, getH (H1 ++ K) (5 + 3 * (kk / ins)) ga = _ := fun K => (Zar K (by omega)).trans r2
    have sa : ∀ x K, (H1 ++ K).set (5 + 3 * (kk / ins)) x = H1.set (5 + 3 * (kk / ins)) x ++ K := fun x K => Zgy x (by omega)
    have gb : ∀ (o : AM.O) K, getH (H1 ++ some (gf, o) :: K) bb gf = some o := fun o K => by rw [← hb1, Zbm]; simp [getH]
    have hll : ∀ x, (H1 ++ [x]).length = bb + 1 := fun x => by simp [hb1]
    have spE : Zbf ((rs.getD (kk / ins) []).flatMap fE) (kk % ins * 2) [.int .i64 s] = ((rs.getD (kk / ins) []).set (kk % ins) ((s : Int), (edg rs (kk / ins) (kk % ins)).2)).flatMap fE := by
      rw [Ztm (by omega)]; rfl
    have hfl2 : ((rs.getD (kk / ins) []).flatMap fE).length = ins * 2 := by rw [Ziz, r4]
    have lenr : 5 + 3 * (kk / ins) < H1.length := by omega
    have lF := Zaf (l := FF) (by omega)
    have hgF : grO fI FF = .cells (FF.flatMap fI) .loose := by
      unfold grO
      rw [if_neg (by intro h; rw [List.isEmpty_iff] at h; rw [h] at hF1; simp at hF1)]
    clear r2 hI hI0 hG0 hF0
    generalize kk / ins = qa at *
    generalize kk % ins = qb at *
    unfold Yhj at e1k
    by_cases hts : s - 1 < tr.length
    · rw [if_pos hts] at e1k
      have hv := htr (s - 1)
      have w3 : IntKind.i64.wrap ((tr.getD (s - 1) 0 : Nat) : Int) = ((tr.getD (s - 1) 0 : Nat) : Int) := Zfy (by omega)
      have d3 := Zfe (tr.getD (s - 1) 0) FF.length
      have hm : tr.getD (s - 1) 0 % FF.length < FF.length := Nat.mod_lt _ (by omega)
      generalize tr.getD (s - 1) 0 % FF.length = mm at *
      have lM := Zan (l := FF) (i := mm) hm
      rw [e1k] at lM
      simp (disch := first | exact dK | fail) only [go_sem, Nat.reduceAdd, Nat.reduceMul, Nat.reduceSub, Nat.reduceLeDiff, Nat.reduceLT, Nat.reduceEqDiff, hgF, q1, q2, q3, q4, q9, q10, he1, w1, w2, w3, d1, d2, d3, Zan, Zaf, Zai, List.getD_cons_zero, Zam, Zao, Zap, Zah, Zaj, Zae, Zad, Zag, Zbc, e0, e2, e4, ea, gb, lF, lM, hll, r1, sa, spE, hfl2, Zam, Int.reduceToNat, Nat.zero_mul]
      refine ⟨_, _, _, _, rfl, .inl ⟨rfl, k1 - 1, by omega, s + 1, setE rs qa qb s, _, _, by omega, by omega, ?_, rfl, hIn, hGs, hFn⟩⟩
      exact ⟨gQ he1, gQ q1, gQ q2, gQ q3, gQ q4, gQ he1⟩
    · rw [if_neg hts] at e1k
      rw [e1k] at lF
      simp (disch := first | exact dK | fail) only [go_sem, Nat.reduceAdd, Nat.reduceMul, Nat.reduceSub, Nat.reduceLeDiff, Nat.reduceLT, Nat.reduceEqDiff, hgF, q1, q2, q3, q4, q9, q10, he1, w1, w2, d1, d2, Zan, Zaf, Zai, List.getD_cons_zero, Zam, Zao, Zap, Zah, Zaj, Zae, Zad, Zag, Zbc, e0, e2, e4, ea, gb, lF, hll, r1, sa, spE, hfl2, Zam, Int.reduceToNat, Nat.zero_mul]
      refine ⟨_, _, _, _, rfl, .inl ⟨rfl, k1 - 1, by omega, s + 1, setE rs qa qb s, _, _, by omega, by omega, ?_, rfl, hIn, hGs, hFn⟩⟩
      exact ⟨gQ he1, gQ q1, gQ q2, gQ q3, gQ q4, gQ he1⟩
  · have hs : s = n := by omega
    subst hs
    simp (disch := first | exact dJ | fail) only [go_sem, Nat.reduceAdd, Nat.reduceMul, Nat.reduceSub, Nat.reduceLeDiff, Nat.reduceLT, Nat.reduceEqDiff, h1, h2, h3, h4, h9, he, w1, hT]
    exact ⟨_, _, _, _, rfl, .inr ⟨by simp, rfl, ⟨rs, hI, hG⟩, gQ he, gQ h1, gQ h2, gQ h3, gQ h4⟩⟩
end
end Go.AM
