/- What the functions of the lists compute. -/
import Derived.Test.YteooegmokbbeoaaGauBl
import Derived.Test.YteooegmokbbeoaaGauP06
import Derived.Test.YteooegmokbbeoaaGauBe
set_option linter.unusedVariables false
set_option linter.unusedSimpArgs false
namespace Go.AM
def fI (n : Int) : List V := [.int .i64 n]
abbrev ints (l : List Int) (k : SC) : V := enS fI 1 l k
theorem Zwg (n : Int) : (fI n).length = 1 := rfl
theorem Zan {l : List Int} {i : Nat} (h : i < l.length) : ldC 1 false (i * 1) (l.flatMap fI) = some (.int .i64 (l.getD i 0)) := by
  rw [Zfc fI 1 false Zwg l i 0 h]; rfl

def lexI : List Int → List Int → Int
  | a :: as, b :: bs => if a < b then -1 else if b < a then 1 else lexI as bs
  | _, _ => 0
theorem Zov {a b : List Int} {i : Nat} (ha : i < a.length) (hb : i < b.length) : lexI (a.drop i) (b.drop i) = if a.getD i 0 < b.getD i 0 then -1 else if b.getD i 0 < a.getD i 0 then 1 else lexI (a.drop (i + 1)) (b.drop (i + 1)) := by
  rw [List.drop_eq_getElem_cons ha, List.drop_eq_getElem_cons hb]
  simp [lexI, List.getD_eq_getElem?_getD, ha, hb]
def cmpI (a b : List Int) : Int := if a.length < b.length then -1 else if b.length < a.length then 1 else lexI a b

theorem L22 {a b : List Int} {ka kb : SC} (hab : a.length = b.length) (hb : a.length < 4611686018427387904) {e : List V} (he : e.length = 40) (h0 : getE e 0 = ints a ka) (h1 : getE e 1 = ints b kb) (h5 : getE e 5 = .int .i64 (0 : Nat)) :
    ∃ ex e' H' g', X AP (.inl (some 0) Yfa) ⟨e, [], 0, none⟩ = some (ex, ⟨e', H', g', none⟩) ∧ (ex = .exit 0 ∧ lexI a b = 0 ∧ e'.length = 40 ∨ ex = .ret ∧ getE e' 4 = .int .i64 (lexI a b)) := by
  refine Zbx (fun k e H g => ∃ i : Nat, k + i = a.length ∧ e.length = 40 ∧ getE e 0 = ints a ka ∧ getE e 1 = ints b kb ∧ getE e 5 = .int .i64 i ∧ lexI a b = lexI (a.drop i) (b.drop i)) (fun ex e' H' g' => ex = .exit 0 ∧ lexI a b = 0 ∧ e'.length = 40 ∨ ex = .ret ∧ getE e' 4 = .int .i64 (lexI a b)) ?_ a.length e [] 0 ⟨0, by omega, he, h0, h1, h5, by simp⟩
  rintro k e H g ⟨i, hk, he, h0, h1, h5, hl⟩
  unfold Yfa
  by_cases hi : i < a.length
  · rw [Zov hi (by omega)] at hl
    by_cases h2 : a.getD i 0 < b.getD i 0
    · simp (disch := first | exact dJ | fail) only [go_sem, Nat.reduceAdd, Nat.reduceMul, Nat.reduceSub, Nat.reduceLeDiff, Nat.reduceLT, Nat.reduceEqDiff, h0, h1, h5, he, Zan]
      rw [if_pos h2] at hl
      exact ⟨_, _, _, _, rfl, .inr ⟨by simp, .inr ⟨rfl, by rw [hl]; simp (disch := first | exact dG | fail) only [Zab, Zaa, Zac]⟩⟩⟩
    · by_cases h3 : b.getD i 0 < a.getD i 0
      · simp (disch := first | exact dJ | fail) only [go_sem, Nat.reduceAdd, Nat.reduceMul, Nat.reduceSub, Nat.reduceLeDiff, Nat.reduceLT, Nat.reduceEqDiff, h0, h1, h5, he, Zan]
        rw [if_neg h2, if_pos h3] at hl
        exact ⟨_, _, _, _, rfl, .inr ⟨by simp, .inr ⟨rfl, by rw [hl]; simp (disch := first | exact dG | fail) only [Zab, Zaa, Zac]⟩⟩⟩
      · simp (disch := first | exact dJ | fail) only [go_sem, Nat.reduceAdd, Nat.reduceMul, Nat.reduceSub, Nat.reduceLeDiff, Nat.reduceLT, Nat.reduceEqDiff, h0, h1, h5, he, Zan, Zay]
        rw [if_neg h2, if_neg h3] at hl
        exact ⟨_, _, _, _, rfl, .inl ⟨rfl, k - 1, by omega, i + 1, by omega, by simp (disch := first | exact dG | fail) only [Zab, Zaa, Zac, he], by simp (disch := first | exact dG | fail) only [Zab, Zaa, Zac, h0], by simp (disch := first | exact dG | fail) only [Zab, Zaa, Zac, h1], by simp (disch := first | exact dG | fail) only [Zab, Zaa, Zac, h5]; rfl, hl⟩⟩
  · simp (disch := first | exact dJ | fail) only [go_sem, Nat.reduceAdd, Nat.reduceMul, Nat.reduceSub, Nat.reduceLeDiff, Nat.reduceLT, Nat.reduceEqDiff, h0, h1, h5, he]
    have hi' : a.length ≤ i := by omega
    rw [List.drop_eq_nil_of_le hi', List.drop_eq_nil_of_le (by omega)] at hl
    exact ⟨_, _, _, _, rfl, .inr ⟨by simp, .inl ⟨rfl, hl, by simp (disch := first | exact dG | fail) only [Zab, Zaa, Zac, he]⟩⟩⟩

theorem f22 (a b : List Int) (ka kb : SC) (hb : a.length < 4611686018427387904) : Zaq AP (X AP) false 22 [ints a ka, ints b kb] = some (.int .i64 (cmpI a b), none) := by
  obtain ⟨e, he, hg, hx⟩ := Zat AP22 (args := [ints a ka, ints b kb]) rfl (by decide)
  have he : e.length = 40 := he
  have h0 : getE e 0 = ints a ka := hg 0 (by simp only [List.length_cons]; omega)
  have h1 : getE e 1 = ints b kb := hg 1 (by simp only [List.length_cons]; omega)
  rw [hx]; clear hx hg; unfold c22
  unfold cmpI
  by_cases h2 : a.length < b.length
  · simp (disch := first | exact dJ | fail) only [go_sem, Nat.reduceAdd, Nat.reduceMul, Nat.reduceSub, Nat.reduceLeDiff, Nat.reduceLT, Nat.reduceEqDiff, h0, h1]
    simp [h2]
  · by_cases h3 : b.length < a.length
    · simp (disch := first | exact dJ | fail) only [go_sem, Nat.reduceAdd, Nat.reduceMul, Nat.reduceSub, Nat.reduceLeDiff, Nat.reduceLT, Nat.reduceEqDiff, h0, h1]
      simp [h2, h3]
    · simp (disch := first | exact dJ | fail) only [go_sem, Nat.reduceAdd, Nat.reduceMul, Nat.reduceSub, Nat.reduceLeDiff, Nat.reduceLT, Nat.reduceEqDiff, h0, h1]
      generalize hE : putE _ _ _ = E
      have hEl : E.length = 40 := by subst hE; simp (disch := first | exact dG | fail) only [Zab, Zaa, Zac, he]
      have q0 : getE E 0 = ints a ka := by subst hE; exact gQ h0
      have q1 : getE E 1 = ints b kb := by subst hE; exact gQ h1
      have q5 : getE E 5 = .int .i64 (0 : Nat) := by subst hE; simp (disch := first | exact dG | fail) only [Zab, Zaa, Zac, h0, Int.ofNat_zero, Int.natCast_zero]
      obtain ⟨ex, e', H', g', hx, h⟩ := L22 (by omega) hb hEl q0 q1 q5
      rw [hx]
      rcases h with ⟨rfl, hl, he'⟩ | ⟨rfl, hr⟩
      · simp (disch := first | exact dJ | fail) only [go_sem, Nat.reduceAdd, Nat.reduceMul, Nat.reduceSub, Nat.reduceLeDiff, Nat.reduceLT, Nat.reduceEqDiff, he']
        simp [h2, h3, hl]
      · simp (disch := first | exact dJ | fail) only [go_sem, Nat.reduceAdd, Nat.reduceMul, Nat.reduceSub, Nat.reduceLeDiff, Nat.reduceLT, Nat.reduceEqDiff, hr]
        simp [h2, h3]
end Go.AM

set_option linter.unusedVariables false
set_option linter.unusedSimpArgs false
namespace Go.AM
def fE (x : Int × Int) : List V := [.int .i64 x.1, .int .i64 x.2]
def fR (k : SC) (r : List (Int × Int)) : List V := [enS fE 2 r k]
def fN (k : IntKind) (n : Nat) : List V := [.int k n]
instance : Enc fI 1 := ⟨fun _ => rfl, by decide, fun _ => by simp [fI, Zak.pureL, Zak]⟩
instance : Enc fE 2 := ⟨fun _ => rfl, by decide, fun _ => by simp [fE, Zak.pureL, Zak]⟩
instance (k : SC) : Enc (fR k) 1 := ⟨fun _ => rfl, by decide, fun _ => by simp [fR, Zax, Zbi, Zcf]⟩
instance (k : IntKind) : Enc (fN k) 1 := ⟨fun _ => rfl, by decide, fun _ => by simp [fN, Zak.pureL, Zak]⟩
abbrev encM (k k' : SC) (ins outs : Nat) (rows : List (List (Int × Int))) : V := .agg [.int .i64 ins, .int .i64 outs, enS (fR k') 1 rows k]
theorem Zfe (a b : Nat) : ((a : Int)).tmod (b : Int) = ((a % b : Nat) : Int) := (Int.ofNat_tmod a b).symm
theorem Znu (a b : Nat) : ((a : Int)).tdiv (b : Int) = ((a / b : Nat) : Int) := (Int.ofNat_tdiv a b).symm
theorem Zao {k : SC} {l : List (List (Int × Int))} {i : Nat} (h : i < l.length) : ldC 1 false (i * 1) (l.flatMap (fR k)) = some (enS fE 2 (l.getD i []) k) := by
  rw [Zfc (fR k) 1 false (fun _ => rfl) l i [] h]; rfl
theorem Zap {l : List (Int × Int)} {i : Nat} (h : i < l.length) : ldC 2 true (i * 2) (l.flatMap fE) = some (.agg [.int .i64 (l.getD i (0, 0)).1, .int .i64 (l.getD i (0, 0)).2]) := by
  rw [Zfc fE 2 true (fun _ => rfl) l i (0, 0) h]; rfl
theorem Zsr {l : List (Int × Int)} {i j : Nat} (h : i < l.length) (hj : j < 2) : ldC 1 false (i * 2 + j) (l.flatMap fE) = ldC 1 false j (fE (l.getD i (0, 0))) := by
  have hc := Zns fE 2 (fun _ => rfl) l i (0, 0) h
  have hl := Zel fE 2 (fun _ => rfl) l
  unfold ldC
  rw [hl, if_pos (by omega), if_pos (by simp [fE]; omega)]
  congr 1
  rw [← hc]
  unfold cut
  rw [List.drop_take, List.take_take, List.drop_drop]
  congr 1
  omega
theorem Zah {l : List (Int × Int)} {i : Nat} (h : i < l.length) : ldC 1 false (i * 2) (l.flatMap fE) = some (.int .i64 (l.getD i (0, 0)).1) := by
  have := Zsr h (j := 0) (by decide); rw [Nat.add_zero] at this; rw [this]; rfl
theorem Zaj {l : List (Int × Int)} {i : Nat} (h : i < l.length) : ldC 1 false (i * 2 + 1) (l.flatMap fE) = some (.int .i64 (l.getD i (0, 0)).2) := by
  rw [Zsr h (j := 1) (by decide)]; rfl
theorem Zaf {l : List Int} (h : 0 < l.length) : ldC 1 false 0 (l.flatMap fI) = some (.int .i64 (l.getD 0 0)) := Zan (i := 0) h
theorem Zai {k : SC} {l : List (List (Int × Int))} (h : 0 < l.length) : ldC 1 false 0 (l.flatMap (fR k)) = some (enS fE 2 (l.getD 0 []) k) := Zao (i := 0) h
theorem Zag {id g n : Nat} {H : Heap} (bytes i gi j : Nat) (l : List Int) (a : Int) (kd : Kd) (hn : n = l.length) (hb : (n + 1) * bytes ≤ 140737488355328) (h0 : 0 < bytes) (hi : i < H.length) :
    appA bytes id g 1 i gi n none j H (some (grO fI l)) (some (.cells [.int .i64 a] kd)) = some (.sl i g 1 0 (n + 1) none, H.set i (some (g, grO fI (l ++ [a]))), [j, i], [i]) :=
  Zhl bytes i gi j l a kd rfl hn hb h0 hi
theorem Zae {id g n : Nat} {H : Heap} (bytes i gi j : Nat) (l : List (Int × Int)) (a b : Int) (kd : Kd) (hn : n = l.length) (hb : (n + 1) * bytes ≤ 140737488355328) (h0 : 0 < bytes) (hi : i < H.length) :
    appA bytes id g 2 i gi n none j H (some (grO fE l)) (some (.cells [.int .i64 a, .int .i64 b] kd)) = some (.sl i g 2 0 (n + 1) none, H.set i (some (g, grO fE (l ++ [(a, b)]))), [j, i], [i]) :=
  Zhl bytes i gi j l (a, b) kd rfl hn hb h0 hi
theorem Zad {id g n : Nat} {H : Heap} (bytes i gi j : Nat) (k : SC) (l : List (List (Int × Int))) (r : List (Int × Int)) (kd : Kd) (hn : n = l.length) (hb : (n + 1) * bytes ≤ 140737488355328) (h0 : 0 < bytes) (hi : i < H.length) :
    appA bytes id g 1 i gi n none j H (some (grO (fR k) l)) (some (.cells [enS fE 2 r k] kd)) = some (.sl i g 1 0 (n + 1) none, H.set i (some (g, grO (fR k) (l ++ [r]))), [j, i], [i]) :=
  Zhl bytes i gi j l r kd rfl hn hb h0 hi
theorem Zam {k : IntKind} {l : List Nat} {i : Nat} (h : i < l.length) : ldC 1 false (i * 1) (l.flatMap (fN k)) = some (.int k ((l.getD i 0 : Nat) : Int)) := by
  rw [Zfc (fN k) 1 false (fun _ => rfl) l i 0 h]; rfl
theorem Zbq {α : Type} (f : Nat → α) (n : Nat) : (List.range n).map f ++ [f n] = (List.range (n + 1)).map f := by rw [List.range_succ, List.map_append]; rfl
/-- An edge of a machine of numbers. -/
def Zfp (n outs : Nat) (p : Bool) (v : Nat) : Int × Int := if p = true ∧ v % 4 = 3 then (-1, -1) else (((v / 4 % n : Nat) : Int), ((v / 4 / n % outs : Nat) : Int))
theorem Yaj (n outs : Nat) (p : Bool) : Zfp n outs p 0 = (0, 0) := by simp [Zfp]
abbrev bx2 (S I O : Nat) (p : Bool) (es : List Nat) (ke : SC) : AM.O := .cells [.int .u8 S, .int .u8 I, .int .u8 O, .bool p, enS (fN .u16) 1 es ke] .fixed
abbrev H2 (bx : O) (ins outs : Nat) (x3 : Option (Nat × O)) (g4 nr : Nat) (rows : List (List (Int × Int))) (K : Heap) : Heap :=
  some (0, bx) :: some (1, .cells [.int .i64 0, .int .i64 0, .nils] .fixed) :: some (2, .cells [.int .i64 ins, .int .i64 outs, .sl 4 g4 1 0 nr none] .fixed) :: x3 :: some (g4, grO (fR .n) rows) :: K
theorem L2_2 {S I O : Nat} {p : Bool} {es : List Nat} {ke : SC} {n ins outs s : Nat} {x3 : Option (Nat × AM.O)} {g4 nr : Nat} {rows : List (List (Int × Int))} (hn : 1 ≤ n) (ho : 1 ≤ outs) (hs : s ≤ 64) (hi : ins ≤ 16) (hes : ∀ i, es.getD i 0 < 65536) {e : List V} {g g5 : Nat} (he : e.length = 87)
    (h1 : getE e 1 = .ptr 0 0 0) (h2 : getE e 2 = .ptr 1 1 0) (h3 : getE e 3 = .int .i64 n) (h4 : getE e 4 = .ptr 2 2 0) (h5 : getE e 5 = .int .i64 s) (h6 : getE e 6 = .sl 5 g5 2 0 (0 : Nat) none) (h7 : getE e 7 = .int .i64 (0 : Nat)) :
    ∃ ex e' H' g', X AP (.inl (some 6) B2_2) ⟨e, H2 (bx2 S I O p es ke) ins outs x3 g4 nr rows [some (g5, .cells [] .nilo)], g, none⟩ = some (ex, ⟨e', H', g', none⟩) ∧
      ex = .exit 2 ∧ e'.length = 87 ∧ getE e' 1 = .ptr 0 0 0 ∧ getE e' 2 = .ptr 1 1 0 ∧ getE e' 3 = .int .i64 n ∧ getE e' 4 = .ptr 2 2 0 ∧ getE e' 5 = .int .i64 s ∧ ∃ g6, getE e' 6 = .sl 5 g6 2 0 ins none ∧
        H' = H2 (bx2 S I O p es ke) ins outs x3 g4 nr rows [some (g6, grO fE ((List.range ins).map fun i => Zfp n outs p (es.getD (s * ins + i) 0)))] := by
  refine Zbx (fun k e H g => ∃ i g6 K, k + i = ins ∧ e.length = 87 ∧ getE e 1 = .ptr 0 0 0 ∧ getE e 2 = .ptr 1 1 0 ∧ getE e 3 = .int .i64 n ∧ getE e 4 = .ptr 2 2 0 ∧ getE e 5 = .int .i64 s ∧ getE e 6 = .sl 5 g6 2 0 i none ∧ getE e 7 = .int .i64 i ∧
    H = H2 (bx2 S I O p es ke) ins outs x3 g4 nr rows (some (g6, grO fE ((List.range i).map fun i => Zfp n outs p (es.getD (s * ins + i) 0))) :: K)) _ ?_ ins e _ g ⟨0, g5, [], by omega, he, h1, h2, h3, h4, h5, h6, h7, rfl⟩
  rintro k e H g ⟨i, g6, K, hk, he, h1, h2, h3, h4, h5, h6, h7, rfl⟩
  have hsi : s * ins ≤ 1024 := Nat.mul_le_mul hs hi
  have w1 : IntKind.i64.wrap ((s : Int) * (ins : Int)) = ((s * ins : Nat) : Int) := by rw [← Int.natCast_mul, Zay (by omega) (by omega)]
  have w2 : IntKind.i64.wrap (((s * ins : Nat) : Int) + (i : Int)) = ((s * ins + i : Nat) : Int) := by rw [← Int.natCast_add, Zay (by omega) (by omega)]
  have w3 : IntKind.i64.wrap ((i : Int) + 1) = ((i + 1 : Nat) : Int) := by rw [Zay (by omega) (by omega)]; rfl
  unfold B2_2
  simp only [H2]
  by_cases hlt : i < ins
  · generalize hv : es.getD (s * ins + i) 0 = v
    have hv' : v < 65536 := hv ▸ hes _
    have q0 : IntKind.i64.wrap (v : Int) = v := Zay (by omega) (by omega)
    have q1 : IntKind.i64.wrap ((v : Int).tdiv 4) = ((v / 4 : Nat) : Int) := by rw [show (4 : Int) = ((4 : Nat) : Int) from rfl, Znu, Zay (by omega) (by omega)]
    have q2 : ((v / 4 : Nat) : Int).tmod (n : Int) = ((v / 4 % n : Nat) : Int) := Zfe _ _
    have hq : v / 4 / n ≤ v := Nat.le_trans (Nat.div_le_self _ _) (Nat.div_le_self _ _)
    have q3 : IntKind.i64.wrap (((v / 4 : Nat) : Int).tdiv (n : Int)) = ((v / 4 / n : Nat) : Int) := by rw [Znu, Zfy (Nat.lt_of_le_of_lt hq (by omega))]
    have q4 : ((v / 4 / n : Nat) : Int).tmod (outs : Int) = ((v / 4 / n % outs : Nat) : Int) := Zfe _ _
    have q5 : ((v : Int)).tmod 4 = ((v % 4 : Nat) : Int) := by rw [show (4 : Int) = ((4 : Nat) : Int) from rfl, Zfe]
    have z1 : (0 : Int).tmod (n : Int) = 0 := Int.zero_tmod _
    have z2 : (0 : Int).tdiv (n : Int) = 0 := Int.zero_tdiv _
    have z3 : (0 : Int).tmod (outs : Int) = 0 := Int.zero_tmod _
    by_cases hl : s * ins + i < es.length
    · cases p with
      | false =>
        have hed : Zfp n outs false v = (((v / 4 % n : Nat) : Int), ((v / 4 / n % outs : Nat) : Int)) := by simp [Zfp]
        simp (disch := first | exact dJ | fail) only [go_sem, Nat.reduceAdd, Nat.reduceMul, Nat.reduceSub, Nat.reduceLeDiff, Nat.reduceLT, Nat.reduceEqDiff, h1, h2, h3, h4, h5, h6, h7, he, w1, w2, w3, q0, q1, q2, q3, q4, q5, z1, z2, z3, Zam, Zae, Zad, hv]
        exact ⟨_, _, _, _, rfl, .inl ⟨rfl, k - 1, by omega, i + 1, _, _, by omega, (gQ he), (gQ h1), (gQ h2), (gQ h3), (gQ h4), (gQ h5), (gQ he), (gQ he), by rw [← Zbq, hv, hed] <;> rfl⟩⟩
      | true =>
        by_cases hm : v % 4 = 3
        · have hed : Zfp n outs true v = (-1, -1) := by simp [Zfp, hm]
          simp (disch := first | exact dJ | fail) only [go_sem, Nat.reduceAdd, Nat.reduceMul, Nat.reduceSub, Nat.reduceLeDiff, Nat.reduceLT, Nat.reduceEqDiff, h1, h2, h3, h4, h5, h6, h7, he, w1, w2, w3, q0, q1, q2, q3, q4, q5, z1, z2, z3, Zam, Zae, Zad, hv]
          exact ⟨_, _, _, _, rfl, .inl ⟨rfl, k - 1, by omega, i + 1, _, _, by omega, (gQ he), (gQ h1), (gQ h2), (gQ h3), (gQ h4), (gQ h5), (gQ he), (gQ he), by rw [← Zbq, hv, hed] <;> rfl⟩⟩
        · have hed : Zfp n outs true v = (((v / 4 % n : Nat) : Int), ((v / 4 / n % outs : Nat) : Int)) := by simp [Zfp, hm]
          simp (disch := first | exact dJ | fail) only [go_sem, Nat.reduceAdd, Nat.reduceMul, Nat.reduceSub, Nat.reduceLeDiff, Nat.reduceLT, Nat.reduceEqDiff, h1, h2, h3, h4, h5, h6, h7, he, w1, w2, w3, q0, q1, q2, q3, q4, q5, z1, z2, z3, Zam, Zae, Zad, hv]
          exact ⟨_, _, _, _, rfl, .inl ⟨rfl, k - 1, by omega, i + 1, _, _, by omega, (gQ he), (gQ h1), (gQ h2), (gQ h3), (gQ h4), (gQ h5), (gQ he), (gQ he), by rw [← Zbq, hv, hed] <;> rfl⟩⟩
    · have hv0 : v = 0 := by rw [← hv]; simp [List.getD_eq_getElem?_getD, List.getElem?_eq_none (Nat.le_of_not_lt hl)]
      have hed : Zfp n outs p v = (0, 0) := by rw [hv0]; exact Yaj n outs p
      have z4 : IntKind.i64.wrap ((0 : Int).tdiv 4) = 0 := by decide
      have z5 : (0 : Int).tmod 4 = 0 := by decide
      have z6 : IntKind.i64.wrap 0 = 0 := by decide
      cases p with
      | false =>
        simp (disch := first | exact dJ | fail) only [go_sem, Nat.reduceAdd, Nat.reduceMul, Nat.reduceSub, Nat.reduceLeDiff, Nat.reduceLT, Nat.reduceEqDiff, h1, h2, h3, h4, h5, h6, h7, he, w1, w2, w3, q0, q1, q2, q3, q4, q5, z1, z2, z3, Zam, Zae, Zad, hv, z4, z5, z6]
        exact ⟨_, _, _, _, rfl, .inl ⟨rfl, k - 1, by omega, i + 1, _, _, by omega, (gQ he), (gQ h1), (gQ h2), (gQ h3), (gQ h4), (gQ h5), (gQ he), (gQ he), by rw [← Zbq, hv, hed] <;> rfl⟩⟩
      | true =>
        simp (disch := first | exact dJ | fail) only [go_sem, Nat.reduceAdd, Nat.reduceMul, Nat.reduceSub, Nat.reduceLeDiff, Nat.reduceLT, Nat.reduceEqDiff, h1, h2, h3, h4, h5, h6, h7, he, w1, w2, w3, q0, q1, q2, q3, q4, q5, z1, z2, z3, Zam, Zae, Zad, hv, z4, z5, z6]
        exact ⟨_, _, _, _, rfl, .inl ⟨rfl, k - 1, by omega, i + 1, _, _, by omega, (gQ he), (gQ h1), (gQ h2), (gQ h3), (gQ h4), (gQ h5), (gQ he), (gQ he), by rw [← Zbq, hv, hed] <;> rfl⟩⟩
  · have hi' : i = ins := by omega
    subst hi'
    simp (disch := first | exact dJ | fail) only [go_sem, Nat.reduceAdd, Nat.reduceMul, Nat.reduceSub, Nat.reduceLeDiff, Nat.reduceLT, Nat.reduceEqDiff, h1, h2, h3, h4, h5, h6, h7, he, w1, w2, w3]
    exact ⟨_, _, _, _, rfl, .inr ⟨by simp, rfl, (gQ he), (gQ h1), (gQ h2), (gQ h3), (gQ h4), (gQ h5), _, (gQ h6), rfl⟩⟩
def Zrz (n ins outs : Nat) (p : Bool) (es : List Nat) (s : Nat) : List (Int × Int) := (List.range ins).map fun i => Zfp n outs p (es.getD (s * ins + i) 0)
def Zfb (n ins outs : Nat) (p : Bool) (es : List Nat) (s : Nat) : List (List (Int × Int)) := (List.range s).map (Zrz n ins outs p es)
theorem Zqp (n ins outs : Nat) (p : Bool) (es : List Nat) (s : Nat) : (Zrz n ins outs p es s).length = ins := by simp [Zrz]
theorem Zdl (n ins outs : Nat) (p : Bool) (es : List Nat) (s : Nat) : (Zfb n ins outs p es s).length = s := by simp [Zfb]
theorem L2_1 {S I O : Nat} {p : Bool} {es : List Nat} {ke : SC} {n ins outs : Nat} {x3 : Option (Nat × AM.O)} {g4 : Nat} (hn : 1 ≤ n) (hn2 : n ≤ 64) (ho : 1 ≤ outs) (hi : ins ≤ 16) (hes : ∀ i, es.getD i 0 < 65536) {e : List V} {g : Nat} (he : e.length = 87)
    (h1 : getE e 1 = .ptr 0 0 0) (h2 : getE e 2 = .ptr 1 1 0) (h3 : getE e 3 = .int .i64 n) (h4 : getE e 4 = .ptr 2 2 0) (h5 : getE e 5 = .int .i64 (0 : Nat)) :
    ∃ ex e' H' g', X AP (.inl (some 5) B2_1) ⟨e, H2 (bx2 S I O p es ke) ins outs x3 g4 0 [] [], g, none⟩ = some (ex, ⟨e', H', g', none⟩) ∧
      ex = .exit 0 ∧ e'.length = 87 ∧ getE e' 2 = .ptr 1 1 0 ∧ getE e' 4 = .ptr 2 2 0 ∧ ∃ g6, H' = H2 (bx2 S I O p es ke) ins outs x3 g6 n (Zfb n ins outs p es n) [] := by
  refine Zbx (fun k e H g => ∃ s g6 K, k + s = n ∧ e.length = 87 ∧ getE e 1 = .ptr 0 0 0 ∧ getE e 2 = .ptr 1 1 0 ∧ getE e 3 = .int .i64 n ∧ getE e 4 = .ptr 2 2 0 ∧ getE e 5 = .int .i64 s ∧
    H = H2 (bx2 S I O p es ke) ins outs x3 g6 s (Zfb n ins outs p es s) K) _ ?_ n e _ g ⟨0, g4, [], by omega, he, h1, h2, h3, h4, h5, rfl⟩
  rintro k e H g ⟨s, g6, K, hk, he, h1, h2, h3, h4, h5, rfl⟩
  have w3 : IntKind.i64.wrap ((s : Int) + 1) = ((s + 1 : Nat) : Int) := by rw [Zay (by omega) (by omega)]; rfl
  unfold B2_1
  by_cases hlt : s < n
  · have hl := Zdl n ins outs p es s
    simp only [H2]
    simp (disch := first | exact dJ | fail) only [go_sem, Nat.reduceAdd, Nat.reduceMul, Nat.reduceSub, Nat.reduceLeDiff, Nat.reduceLT, Nat.reduceEqDiff, h1, h2, h3, h4, h5, he, w3]
    generalize hE : putE _ _ _ = E
    have hEl : E.length = 87 := by subst hE; simp (disch := first | exact dG | fail) only [Zab, Zaa, Zac, he]
    have p1 : getE E 1 = .ptr 0 0 0 := by subst hE; exact gQ h1
    have p2 : getE E 2 = .ptr 1 1 0 := by subst hE; exact gQ h2
    have p3 : getE E 3 = .int .i64 n := by subst hE; exact gQ h3
    have p4 : getE E 4 = .ptr 2 2 0 := by subst hE; exact gQ h4
    have p5 : getE E 5 = .int .i64 s := by subst hE; exact gQ h5
    have p6 : getE E 6 = .sl 5 g 2 0 (0 : Nat) none := by subst hE; exact gQ he
    have p7 : getE E 7 = .int .i64 (0 : Nat) := by subst hE; exact gZ he
    obtain ⟨ex, e1, H1, g1, hx, rfl, he1, h11, h12, h13, h14, h15, g7, h16, rfl⟩ := L2_2 (S := S) (I := I) (O := O) (p := p) (es := es) (ke := ke) (outs := outs) (x3 := x3) (g4 := g6) (nr := s) (rows := Zfb n ins outs p es s) (g := g + 1) hn ho (by omega) hi hes hEl p1 p2 p3 p4 p5 p6 p7
    rw [hx]
    have hl2 := Zqp n ins outs p es s
    unfold Zrz at hl2
    simp (disch := first | exact dJ | fail) only [go_sem, Nat.reduceAdd, Nat.reduceMul, Nat.reduceSub, Nat.reduceLeDiff, Nat.reduceLT, Nat.reduceEqDiff, h11, h12, h13, h14, h15, h16, he1, w3, Zad]
    exact ⟨_, _, _, _, rfl, .inl ⟨rfl, k - 1, by omega, s + 1, _, _, by omega, (gQ he1), (gQ h11), (gQ h12), (gQ h13), (gQ h14), (gQ he1), by unfold Zfb; rw [← Zbq] <;> rfl⟩⟩
  · have hs' : s = n := by omega
    subst hs'
    simp only [H2]
    simp (disch := first | exact dJ | fail) only [go_sem, Nat.reduceAdd, Nat.reduceMul, Nat.reduceSub, Nat.reduceLeDiff, Nat.reduceLT, Nat.reduceEqDiff, h1, h2, h3, h4, h5, he, w3]
    exact ⟨_, _, _, _, rfl, .inr ⟨by simp, rfl, (gQ he), (gQ h2), (gQ h4), _, rfl⟩⟩
theorem f2 (S I O : Nat) (p : Bool) (es : List Nat) (ke : SC) (hes : ∀ i, es.getD i 0 < 65536) : Zaq AP (X AP) false 2 [.agg [.int .u8 S, .int .u8 I, .int .u8 O, .bool p, enS (fN .u16) 1 es ke]] = some (encM .n .n (1 + I % 3) (1 + O % 3) (Zfb (1 + S % 6) (1 + I % 3) (1 + O % 3) p es (1 + S % 6)), none) := by
  obtain ⟨e, he, hg, hx⟩ := Zat AP2 (args := [.agg [.int .u8 S, .int .u8 I, .int .u8 O, .bool p, enS (fN .u16) 1 es ke]]) rfl (by decide)
  have he : e.length = 87 := he
  have h0 : getE e 0 = .agg [.int .u8 S, .int .u8 I, .int .u8 O, .bool p, enS (fN .u16) 1 es ke] := hg 0 (by simp only [List.length_cons]; omega)
  rw [hx]; clear hx hg; unfold c2
  have w1 : IntKind.i64.wrap ((S : Int).tmod 6) = ((S % 6 : Nat) : Int) := by rw [show (6 : Int) = ((6 : Nat) : Int) from rfl, Zfe, Zay (by omega) (by omega)]
  have w2 : IntKind.i64.wrap ((I : Int).tmod 3) = ((I % 3 : Nat) : Int) := by rw [show (3 : Int) = ((3 : Nat) : Int) from rfl, Zfe, Zay (by omega) (by omega)]
  have w3 : IntKind.i64.wrap ((O : Int).tmod 3) = ((O % 3 : Nat) : Int) := by rw [show (3 : Int) = ((3 : Nat) : Int) from rfl, Zfe, Zay (by omega) (by omega)]
  have w4 : IntKind.i64.wrap (1 + ((S % 6 : Nat) : Int)) = ((1 + S % 6 : Nat) : Int) := by rw [Zay (by omega) (by omega)]; rfl
  have w5 : IntKind.i64.wrap (1 + ((I % 3 : Nat) : Int)) = ((1 + I % 3 : Nat) : Int) := by rw [Zay (by omega) (by omega)]; rfl
  have w6 : IntKind.i64.wrap (1 + ((O % 3 : Nat) : Int)) = ((1 + O % 3 : Nat) : Int) := by rw [Zay (by omega) (by omega)]; rfl
  simp (disch := first | exact dJ | fail) only [go_sem, Nat.reduceAdd, Nat.reduceMul, Nat.reduceSub, Nat.reduceLeDiff, Nat.reduceLT, Nat.reduceEqDiff, h0, w1, w2, w3, w4, w5, w6]
  generalize hE : putE _ _ _ = E
  have hEl : E.length = 87 := by subst hE; simp (disch := first | exact dG | fail) only [Zab, Zaa, Zac, he]
  have p1 : getE E 1 = .ptr 0 0 0 := by subst hE; exact gQ h0
  have p2 : getE E 2 = .ptr 1 1 0 := by subst hE; exact gQ h0
  have p3 : getE E 3 = .int .i64 ((1 + S % 6 : Nat) : Int) := by subst hE; exact gQ h0
  have p4 : getE E 4 = .ptr 2 2 0 := by subst hE; exact gQ h0
  have p5 : getE E 5 = .int .i64 (0 : Nat) := by subst hE; exact gZ h0
  obtain ⟨ex, e1, H1, g1, hx, rfl, he1, h12, h14, g7, rfl⟩ := L2_1 (S := S) (I := I) (O := O) (p := p) (es := es) (ke := ke) (ins := 1 + I % 3) (outs := 1 + O % 3) (x3 := some (3, .cells [] .nilo)) (g4 := 4) (g := 5) (by omega) (by omega) (by omega) (by omega) hes hEl p1 p2 p3 p4 p5
  rw [show ((some (4, AM.O.cells [] Kd.nilo) : Option (Nat × AM.O))) = some (4, grO (fR .n) []) from rfl, hx]
  simp (disch := first | exact dJ | fail) only [go_sem, Nat.reduceAdd, Nat.reduceMul, Nat.reduceSub, Nat.reduceLeDiff, Nat.reduceLT, Nat.reduceEqDiff, h12, h14, he1]
  exact Ycq _ _ _ _ _ (Zdl ..).symm (Zbe ..) (Zbe ..) (by simp only [Zei, Zeb, if_true] <;> rfl)
end Go.AM
