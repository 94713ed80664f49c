/- Complete and connected machines of numbers: the rows. -/
import Derived.Test.YteooegmokbbeoaaGauId
import Derived.Test.YteooegmokbbeoaaGauBl
set_option linter.unusedVariables false
set_option linter.unusedSimpArgs false
namespace Go.AM
theorem f67 (es : List Nat) (ke : SC) (hes : ∀ i, es.getD i 0 < 65536) (k : Nat) : Zaq AP (X AP) false 67 [enS (fN .u16) 1 es ke, .int .i64 k] = some (.int .i64 ((es.getD k 0 : Nat) : Int), none) := by
  have hv := hes k
  have w1 : IntKind.i64.wrap ((es.getD k 0 : Nat) : Int) = ((es.getD k 0 : Nat) : Int) := Zfy (by omega)
  obtain ⟨e, he, hg, hx⟩ := Zat AP67 (args := [enS (fN .u16) 1 es ke, .int .i64 k]) rfl (by decide)
  have he : e.length = 14 := he
  have h0 : getE e 0 = enS (fN .u16) 1 es ke := hg 0 (by simp only [List.length_cons]; omega)
  have h1 : getE e 1 = .int .i64 k := hg 1 (by simp only [List.length_cons]; omega)
  rw [hx]; clear hx hg; unfold c67
  by_cases h : k < es.length
  · simp (disch := first | exact dJ | fail) only [go_sem, Nat.reduceAdd, Nat.reduceMul, Nat.reduceSub, Nat.reduceLeDiff, Nat.reduceLT, Nat.reduceEqDiff, h0, h1, he, Zan, Zaf, Zai, List.getD_cons_zero, Zam, Zao, Zap, Zah, Zaj, Zae, Zad, Zag, w1]
  · have : es.getD k 0 = 0 := by rw [List.getD_eq_getElem?_getD, List.getElem?_eq_none (by omega)]; rfl
    rw [this]
    simp (disch := first | exact dJ | fail) only [go_sem, Nat.reduceAdd, Nat.reduceMul, Nat.reduceSub, Nat.reduceLeDiff, Nat.reduceLT, Nat.reduceEqDiff, h0, h1, he, Zan, Zaf, Zai, List.getD_cons_zero, Zam, Zao, Zap, Zah, Zaj, Zae, Zad, Zag, w1, Int.natCast_zero]
section
variable {id g : Nat} {H : Heap}
/-- References that grow by append. -/
def Znt (cs : List V) : O := .cells cs (if cs.isEmpty then .nilo else .loose)
theorem Yae {n : Nat} (i gi j : Nat) (cs : List V) (c : V) (kd : Kd) (hn : n = cs.length) (hb : (n + 1) * 24 ≤ 140737488355328) (hi : i < H.length) : appA 24 id g 1 i gi n none j H (some (Znt cs)) (some (.cells [c] kd)) = some (.sl i g 1 0 (n + 1) none, H.set i (some (g, Znt (cs ++ [c]))), [j, i], [i]) := by
  subst hn
  have hb' : (cs.length + 1) * 24 ≤ Zcp ∧ 0 < 24 := ⟨hb, by decide⟩
  have hc : cut [c] 0 (1 * 1) = [c] := by simp [cut]
  unfold appA
  simp only [List.length_cons, List.length_nil, Nat.zero_add, Nat.mul_one, Nat.le_refl, if_true]
  cases cs with
  | nil =>
    simp only [List.length_nil, Nat.zero_add] at hb'
    simp only [Znt, List.isEmpty_nil, if_true, appG, List.length_nil, Nat.zero_add, hb', and_self, appK, Nat.zero_mul, Nat.le_refl, Nat.one_ne_zero, if_false, runP, hi, Option.map_some, List.nil_append, List.isEmpty_cons, Bool.false_eq_true]
    simp [cut]
  | cons a t =>
    have hle : 0 + (a :: t).length * 1 ≤ (a :: t).length := by omega
    have hgt : ¬ 0 + ((a :: t).length + 1) * 1 ≤ (a :: t).length := by omega
    have hcut : cut (a :: t) 0 ((a :: t).length * 1) = a :: t := by simp [cut]
    simp only [Znt, List.isEmpty_cons, Bool.false_eq_true, if_false, appG, hb', and_self, if_true, appK, hle, hgt, hcut, runP, hi, Option.map_some, List.cons_append]
    simp [cut]
end
def Zjb (n ins outs : Nat) (es : List Nat) (s : Nat) : List (Int × Int) := (List.range ins).map fun i => (-1, ((es.getD (s * ins + i) 0 / n % outs : Nat) : Int))
abbrev bx39 (S I O : Nat) (tr : List Nat) (kt : SC) (es : List Nat) (ke : SC) : AM.O := .cells [.int .u8 S, .int .u8 I, .int .u8 O, enS (fN .u8) 1 tr kt, enS (fN .u16) 1 es ke] .fixed
theorem L39_2 {S I O : Nat} {tr es : List Nat} {kt ke : SC} (hes : ∀ i, es.getD i 0 < 65536) {n ins outs s : Nat} (hn : 1 ≤ n) (ho : 1 ≤ outs) (hs : s ≤ 64) (hi16 : ins ≤ 16) {H : Heap} {p : Nat} (hp : H.length = p) (hp3 : 3 ≤ p) {v3 : V} (b0 : getH H 0 0 = some (bx39 S I O tr kt es ke)) (b2 : getH H 2 2 = some (.cells [.int .i64 ins, .int .i64 outs, v3] .fixed))
    {gr : Nat} {e : List V} {g : Nat} (h : e.length = 178 ∧ getE e 1 = .ptr 0 0 0 ∧ getE e 2 = .ptr 1 1 0 ∧ getE e 3 = .int .i64 n ∧ getE e 4 = .ptr 2 2 0 ∧ getE e 5 = .int .i64 s ∧ getE e 6 = .sl p gr 2 0 (0 : Nat) none ∧ getE e 7 = .int .i64 (0 : Nat)) :
    ∃ ex e' H' g', X AP (.inl (some (H.length + 1)) Yhw) ⟨e, H ++ [some (gr, .cells [] .nilo)], g, none⟩ = some (ex, ⟨e', H', g', none⟩) ∧ ex = .exit 2 ∧ ∃ gr, H' = H ++ [some (gr, grO fE (Zjb n ins outs es s))] ∧ (e'.length = 178 ∧ getE e' 1 = .ptr 0 0 0 ∧ getE e' 2 = .ptr 1 1 0 ∧ getE e' 3 = .int .i64 n ∧ getE e' 4 = .ptr 2 2 0 ∧ getE e' 5 = .int .i64 s ∧ getE e' 6 = .sl p gr 2 0 ins none) := by
  refine Zbx (fun k1 e H' g => ∃ (i gr : Nat) (K : Heap), k1 + i = ins ∧ (e.length = 178 ∧ getE e 1 = .ptr 0 0 0 ∧ getE e 2 = .ptr 1 1 0 ∧ getE e 3 = .int .i64 n ∧ getE e 4 = .ptr 2 2 0 ∧ getE e 5 = .int .i64 s ∧ getE e 6 = .sl p gr 2 0 i none ∧ getE e 7 = .int .i64 i) ∧ H' = H ++ some (gr, grO fE ((List.range i).map fun i => (-1, ((es.getD (s * ins + i) 0 / n % outs : Nat) : Int)))) :: K) _ ?_ ins e _ g ⟨0, gr, [], by omega, h, rfl⟩
  rintro k1 e H' g ⟨i, gr, K, hk, ⟨he, h1, h2, h3, h4, h5, h6, h7⟩, rfl⟩
  unfold Yhw
  have w1 : IntKind.i64.wrap ((i : Int) + 1) = ((i + 1 : Nat) : Int) := by rw [Zay (by omega) (by omega)]; rfl
  have hsi : s * ins ≤ 1024 := Nat.mul_le_mul hs hi16
  have w2 : IntKind.i64.wrap ((s : Int) * (ins : Int)) = ((s * ins : Nat) : Int) := by rw [← Int.natCast_mul, Zay (by omega) (by omega)]
  have w3 : i < ins → IntKind.i64.wrap (((s * ins : Nat) : Int) + (i : Int)) = ((s * ins + i : Nat) : Int) := fun _ => by rw [← Int.natCast_add, Zay (by omega) (by omega)]
  have hll : ((List.range i).map fun i => ((-1 : Int), ((es.getD (s * ins + i) 0 / n % outs : Nat) : Int))).length = i := by simp
  have hsn := Zbq (fun i => ((-1 : Int), ((es.getD (s * ins + i) 0 / n % outs : Nat) : Int))) i
  have hT : ∀ x, (H ++ x :: K).take (H.length + 1) = H ++ [x] := fun x => by rw [List.take_append]; simp; exact List.take_of_length_le (by omega)
  by_cases hlt : i < ins
  · have w3 := w3 hlt
    have hv := hes (s * ins + i)
    have c67 := f67 es ke hes (s * ins + i)
    have d1 : IntKind.i64.wrap (((es.getD (s * ins + i) 0 : Nat) : Int).tdiv (n : Int)) = ((es.getD (s * ins + i) 0 / n : Nat) : Int) := by
      rw [Znu, Zfy]; have := Nat.div_le_self (es.getD (s * ins + i) 0) n; omega
    have d2 := Zfe (es.getD (s * ins + i) 0 / n) outs
    generalize (List.range i).map (fun i => ((-1 : Int), ((es.getD (s * ins + i) 0 / n % outs : Nat) : Int))) = L at *
    generalize es.getD (s * ins + i) 0 = v at *
    have e0 : ∀ K, getH (H ++ K) 0 0 = some (bx39 S I O tr kt es ke) := fun K => (Zar _ (by omega)).trans b0
    have e2 : ∀ K, getH (H ++ K) 2 2 = some (.cells [.int .i64 ins, .int .i64 outs, v3] .fixed) := fun K => (Zar _ (by omega)).trans b2
    subst hp
    have gp : ∀ (o : AM.O) K, getH (H ++ some (gr, o) :: K) H.length gr = some o := fun o K => by rw [Zbm]; simp [getH]
    simp (disch := first | exact dK | fail) only [go_sem, Nat.reduceAdd, Nat.reduceMul, Nat.reduceSub, Nat.reduceLeDiff, Nat.reduceLT, Nat.reduceEqDiff, h1, h2, h3, h4, h5, h6, h7, he, w1, w2, w3, hT, e0, e2, c67, d1, d2, Zan, Zaf, Zai, List.getD_cons_zero, Zam, Zao, Zap, Zah, Zaj, Zae, Zad, Zag, Zbc, List.append_assoc, gp, Zbr, Zbv, Zdq]
    exact ⟨_, _, _, _, rfl, .inl ⟨rfl, k1 - 1, by omega, i + 1, _, _, by omega, ⟨gQ he, gQ h1, gQ h2, gQ h3, gQ h4, gQ h5, gQ he, gQ he⟩, by rw [← hsn] <;> rfl⟩⟩
  · have hi' : i = ins := by omega
    subst hi'
    have e2 : ∀ K, getH (H ++ K) 2 2 = some (.cells [.int .i64 i, .int .i64 outs, v3] .fixed) := fun K => (Zar _ (by omega)).trans b2
    simp (disch := first | exact dK | fail) only [go_sem, Nat.reduceAdd, Nat.reduceMul, Nat.reduceSub, Nat.reduceLeDiff, Nat.reduceLT, Nat.reduceEqDiff, h1, h2, h3, h4, h5, h6, h7, he, w1, hT, e2, Zan, Zaf, Zai, List.getD_cons_zero, Zam, Zao, Zap, Zah, Zaj, Zae, Zad, Zag, Zbc]
    exact ⟨_, _, _, _, rfl, .inr ⟨by simp, rfl, gr, rfl, gQ he, gQ h1, gQ h2, gQ h3, gQ h4, gQ h5, gQ h6⟩⟩
/-- References to rows that lie three places apart. -/
def refS (m : Nat) : Nat → List Nat → List V
  | _, [] => []
  | b, g :: gs => .sl b g 2 0 m none :: refS m (b + 3) gs
theorem Zno (m : Nat) : ∀ (b : Nat) (gs : List Nat), (refS m b gs).length = gs.length
  | _, [] => rfl
  | b, g :: gs => by simp only [refS, List.length_cons, Zno m (b + 3) gs]
theorem Zpz (m : Nat) : ∀ (b : Nat) (gs : List Nat) (g : Nat), refS m b (gs ++ [g]) = refS m b gs ++ [.sl (b + 3 * gs.length) g 2 0 m none]
  | b, [], g => rfl
  | b, x :: gs, g => by
    simp only [List.cons_append, refS, Zpz m (b + 3) gs g, List.length_cons]
    rw [show b + 3 + 3 * gs.length = b + 3 * (gs.length + 1) by omega]
theorem Zsb (m : Nat) : ∀ (b : Nat) (gs : List Nat) (j g : Nat), gs[j]? = some g → (refS m b gs)[j]? = some (.sl (b + 3 * j) g 2 0 m none)
  | b, [], j, g, h => by simp at h
  | b, x :: gs, 0, g, h => by simp at h; subst h; simp [refS]
  | b, x :: gs, j + 1, g, h => by
    simp at h
    have := Zsb m (b + 3) gs j g h
    simp only [refS, List.getElem?_cons_succ, this]
    rw [show b + 3 + 3 * j = b + 3 * (j + 1) by omega]
theorem Ygj (m b : Nat) (gs : List Nat) (j g : Nat) (h : gs[j]? = some g) : ldC 1 false j (refS m b gs) = some (.sl (b + 3 * j) g 2 0 m none) := by
  have k1 := Zsb m b gs j g h
  obtain ⟨h2, k1⟩ := List.getElem?_eq_some_iff.mp k1
  unfold ldC
  rw [if_pos (by omega)]
  have : cut (refS m b gs) j 1 = [.sl (b + 3 * j) g 2 0 m none] := by
    unfold cut
    rw [List.drop_eq_getElem_cons h2]
    simp only [List.take_succ_cons, List.take_zero, List.cons.injEq, and_true]
    exact k1
  rw [this]; rfl
/-- Rows under way. -/
structure I39 (bx : AM.O) (ins outs n : Nat) (g4 : Nat) (gs : List Nat) (rs : List (List (Int × Int))) (H : Heap) : Prop where
  len : H.length = 5 + 3 * n
  gl : gs.length = n
  rl : rs.length = n
  rm : ∀ r ∈ rs, r.length = ins
  a0 : getH H 0 0 = some bx
  a1 : getH H 1 1 = some (.cells [.int .i64 0, .int .i64 0, .nils] .fixed)
  a2 : getH H 2 2 = some (.cells [.int .i64 ins, .int .i64 outs, .sl 4 g4 1 0 n none] .fixed)
  a4 : getH H 4 g4 = some (Znt (refS ins 5 gs))
  ar : ∀ i g, gs[i]? = some g → getH H (5 + 3 * i) g = some (.cells ((rs.getD i []).flatMap fE) .loose)
theorem L39_1 {S I O : Nat} {tr es : List Nat} {kt ke : SC} (hes : ∀ i, es.getD i 0 < 65536) {n ins outs : Nat} (hn : 1 ≤ n) (hn64 : n ≤ 64) (hi1 : 1 ≤ ins) (ho : 1 ≤ outs) (hi16 : ins ≤ 16) {g4 : Nat} {H : Heap} (hI : I39 (bx39 S I O tr kt es ke) ins outs 0 g4 [] [] H) {e : List V} {g : Nat} (h : e.length = 178 ∧ getE e 1 = .ptr 0 0 0 ∧ getE e 2 = .ptr 1 1 0 ∧ getE e 3 = .int .i64 n ∧ getE e 4 = .ptr 2 2 0 ∧ getE e 5 = .int .i64 (0 : Nat)) :
    ∃ ex e' H' g', X AP (.inl none Ygi) ⟨e, H, g, none⟩ = some (ex, ⟨e', H', g', none⟩) ∧ ex = .exit 0 ∧ (∃ g4 gs, I39 (bx39 S I O tr kt es ke) ins outs n g4 gs ((List.range n).map (Zjb n ins outs es)) H') ∧ (e'.length = 178 ∧ getE e' 1 = .ptr 0 0 0 ∧ getE e' 2 = .ptr 1 1 0 ∧ getE e' 3 = .int .i64 n ∧ getE e' 4 = .ptr 2 2 0) := by
  refine Zbx (fun k1 e H g => ∃ (s g4 : Nat) (gs : List Nat), k1 + s = n ∧ (e.length = 178 ∧ getE e 1 = .ptr 0 0 0 ∧ getE e 2 = .ptr 1 1 0 ∧ getE e 3 = .int .i64 n ∧ getE e 4 = .ptr 2 2 0 ∧ getE e 5 = .int .i64 s) ∧ I39 (bx39 S I O tr kt es ke) ins outs s g4 gs ((List.range s).map (Zjb n ins outs es)) H) _ ?_ n e _ g ⟨0, g4, [], by omega, h, hI⟩
  rintro k1 e H g ⟨s, g4, gs, hk, ⟨he, h1, h2, h3, h4, h5⟩, hI⟩
  unfold Ygi
  have w1 : IntKind.i64.wrap ((s : Int) + 1) = ((s + 1 : Nat) : Int) := by rw [Zay (by omega) (by omega)]; rfl
  by_cases hlt : s < n
  · obtain ⟨z1, z2, z3, z4, z5, z6, z7, z8, z9⟩ := hI
    simp (disch := first | exact dJ | fail) only [go_sem, Nat.reduceAdd, Nat.reduceMul, Nat.reduceSub, Nat.reduceLeDiff, Nat.reduceLT, Nat.reduceEqDiff, h1, h2, h3, h4, h5, he, w1, Zbv]
    generalize hE : putE _ _ _ = E
    have hEl : E.length = 178 := by subst hE; simp (disch := first | exact dG | fail) only [Zab, Zaa, Zac, he]
    have p1 : getE E 1 = .ptr 0 0 0 := by subst hE; exact gQ h1
    have p2 : getE E 2 = .ptr 1 1 0 := by subst hE; exact gQ h2
    have p3 : getE E 3 = .int .i64 n := by subst hE; exact gQ h3
    have p4 : getE E 4 = .ptr 2 2 0 := by subst hE; exact gQ h4
    have p5 : getE E 5 = .int .i64 s := by subst hE; exact gQ h5
    have p6 : getE E 6 = .sl (5 + 3 * s) g 2 0 (0 : Nat) none := by subst hE; simp (disch := first | exact dG | fail) only [Zab, Zaa, Zac, z1, he]
    have p7 : getE E 7 = .int .i64 (0 : Nat) := by subst hE; exact gZ he
    clear hE
    obtain ⟨ex, e1, H1, g1, hx, rfl, gr, rfl, he1, q1, q2, q3, q4, q5, q6⟩ := L39_2 (H := H) (p := 5 + 3 * s) hes hn ho (by omega) hi16 z1 (by omega) z5 z7 (gr := g) (g := g + 1) ⟨hEl, p1, p2, p3, p4, p5, p6, p7⟩
    rw [hx]
    clear hx
    have hll := Zno ins 5 gs
    have e2 : ∀ K, getH (H ++ K) 2 2 = some (.cells [.int .i64 ins, .int .i64 outs, .sl 4 g4 1 0 s none] .fixed) := fun K => (Zar _ (by omega)).trans z7
    have e4 : ∀ K, getH (H ++ K) 4 g4 = some (Znt (refS ins 5 gs)) := fun K => (Zar _ (by omega)).trans z8
    have s4 : ∀ x K, (H ++ K).set 4 x = H.set 4 x ++ K := fun x K => Zgy x (by omega)
    have s2 : ∀ y x K, (H.set 4 y ++ K).set 2 x = (H.set 4 y).set 2 x ++ K := fun y x K => Zgy x (by rw [List.length_set]; omega)
    have e24 : ∀ y K, getH (H.set 4 y ++ K) 2 2 = some (.cells [.int .i64 ins, .int .i64 outs, .sl 4 g4 1 0 s none] .fixed) := fun y K => by rw [Zar _ (by rw [List.length_set]; omega), Zal _ (by decide)]; exact z7
    have l4 : 4 < H.length := by omega
    have ej : ∀ x y z (o : AM.O) g, getH (H ++ [x, some (g, o), y, z]) (H.length + 1) g = some o := fun x y z o g => by rw [Zbr]; simp [getH]
    simp (disch := first | exact dK | fail) only [go_sem, Nat.reduceAdd, Nat.reduceMul, Nat.reduceSub, Nat.reduceLeDiff, Nat.reduceLT, Nat.reduceEqDiff, q1, q2, q3, q4, q5, q6, he1, w1, Zan, Zaf, Zai, List.getD_cons_zero, Zam, Zao, Zap, Zah, Zaj, Zae, Zad, Zag, Yae, e2, e4, s4, s2, e24, ej, List.append_assoc, Zdq, Zbv, Zbr]
    refine ⟨_, _, _, _, rfl, .inl ⟨rfl, k1 - 1, by omega, s + 1, g1 + 1, gs ++ [gr], by omega, ⟨gQ he1, gQ q1, gQ q2, gQ q3, gQ q4, gQ he1⟩, ?_⟩⟩
    have hrl : (Zjb n ins outs es s).length = ins := by simp [Zjb]
    have hgr : grO fE (Zjb n ins outs es s) = .cells ((Zjb n ins outs es s).flatMap fE) .loose := by
      unfold grO
      rw [if_neg (by intro h; rw [List.isEmpty_iff] at h; rw [h] at hrl; simp at hrl; omega)]
    rw [List.range_succ, List.map_append]
    refine ⟨by simp; omega, by simp [z2], by simp, ?_, ?_, ?_, ?_, ?_, ?_⟩
    · intro r hr
      rcases List.mem_append.mp hr with hr | hr
      · exact z4 r hr
      · simp only [List.map_cons, List.map_nil, List.mem_singleton] at hr; rw [hr]; exact hrl
    · rw [Zar _ (by simp; omega), Zal _ (by decide), Zal _ (by decide)]; exact z5
    · rw [Zar _ (by simp; omega), Zal _ (by decide), Zal _ (by decide)]; exact z6
    · rw [Zar _ (by simp; omega), Zas _ (by simp; omega)]
    · rw [Zar _ (by simp; omega), Zal _ (by decide), Zas _ l4, Zpz, z2]
    · intro i gi hi
      have hgsl := (List.getElem?_eq_some_iff.mp hi).1
      simp at hgsl
      by_cases his : i < s
      · rw [List.getElem?_append_left (by omega)] at hi
        rw [Zar _ (by simp; omega), Zal _ (by omega), Zal _ (by omega), z9 i gi hi]
        rw [List.getD_eq_getElem?_getD, List.getD_eq_getElem?_getD, List.getElem?_append_left (by simp; omega)]
      · have e : i = s := by omega
        subst e
        rw [List.getElem?_append_right (by omega), z2] at hi
        simp at hi
        subst hi
        have key : ∀ Z : Heap, Z.length = H.length → ∀ x y, getH (Z ++ [some (gr, grO fE (Zjb n ins outs es i)), x, y]) (5 + 3 * i) gr = some (.cells ((Zjb n ins outs es i).flatMap fE) .loose) := fun Z hZ x y => by
          rw [← z1, ← hZ, Zbm, hgr]; simp [getH]
        rw [key _ (by simp)]
        rw [List.getD_eq_getElem?_getD, List.getElem?_append_right (by simp)]
        simp
  · have hs : s = n := by omega
    subst hs
    simp (disch := first | exact dJ | fail) only [go_sem, Nat.reduceAdd, Nat.reduceMul, Nat.reduceSub, Nat.reduceLeDiff, Nat.reduceLT, Nat.reduceEqDiff, h1, h2, h3, h4, h5, he, w1]
    exact ⟨_, _, _, _, rfl, .inr ⟨by simp, rfl, ⟨g4, gs, hI⟩, gQ he, gQ h1, gQ h2, gQ h3, gQ h4⟩⟩
end Go.AM
