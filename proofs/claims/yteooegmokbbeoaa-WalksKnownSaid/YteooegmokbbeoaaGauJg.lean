/- WalksKnown: a ring of 64 states. -/
import Derived.Test.YteooegmokbbeoaaGauJf
import Derived.Test.YteooegmokbbeoaaGauFm
import Derived.Test.YteooegmokbbeoaaGauMk
import Derived.Test.YteooegmokbbeoaaGauBm
set_option linter.unusedVariables false
set_option linter.unusedSimpArgs false
namespace Go.AM
def Zdn (s : Nat) : List (List (Int × Int)) := (List.range s).map fun (s : Nat) => [(((s + 63) % 64 : Nat), 0), ((s : Int), 0)]
theorem L84_1 {x1 : Option (Nat × O)} {gr : Nat} {e : List V} {g : Nat} (h : e.length = 181 ∧ getE e 1 = .ptr 0 0 0 ∧ getE e 2 = .int .i64 (0 : Nat)) :
    ∃ ex e' H' g', X AP (.inl (some 3) Ydr) ⟨e, [some (0, .cells [.int .i64 2, .int .i64 1, .sl 2 gr 1 0 0 none] .fixed), x1, some (gr, .cells [] .nilo)], g, none⟩ = some (ex, ⟨e', H', g', none⟩) ∧ ex = .exit 0 ∧ (∃ gr, H' = [some (0, .cells [.int .i64 2, .int .i64 1, .sl 2 gr 1 0 64 none] .fixed), x1, some (gr, grO (fR (.c (some 2))) (Zdn 64))]) ∧ (e'.length = 181 ∧ getE e' 1 = .ptr 0 0 0) := by
  refine Zbx (fun k1 e H g => ∃ (s gr : Nat) (K : Heap), k1 + s = 64 ∧ (e.length = 181 ∧ getE e 1 = .ptr 0 0 0 ∧ getE e 2 = .int .i64 s) ∧ H = some (0, .cells [.int .i64 2, .int .i64 1, .sl 2 gr 1 0 s none] .fixed) :: x1 :: some (gr, grO (fR (.c (some 2))) (Zdn s)) :: K) _ ?_ 64 e _ g ⟨0, gr, [], by omega, h, rfl⟩
  rintro k1 e H g ⟨s, gr, K, hk, ⟨he, h1, h2⟩, rfl⟩
  unfold Ydr
  have hT : ∀ x0 x2 : Option (Nat × O), (x0 :: x1 :: x2 :: K : Heap).take 3 = [x0, x1, x2] := fun _ _ => rfl
  have w1 : IntKind.i64.wrap ((s : Int) + 1) = ((s + 1 : Nat) : Int) := by rw [Zay (by omega) (by omega)]; rfl
  have w2 : IntKind.i64.wrap ((s : Int) + 63) = ((s + 63 : Nat) : Int) := by rw [Zay (by omega) (by omega)]; rfl
  have d2 : ((s + 63 : Nat) : Int).tmod 64 = (((s + 63) % 64 : Nat) : Int) := Zfe (s + 63) 64
  have hl : (Zdn s).length = s := by simp [Zdn]
  have hsn : Zdn (s + 1) = Zdn s ++ [[((((s + 63) % 64 : Nat) : Int), 0), ((s : Int), 0)]] := by simp [Zdn, List.range_succ]
  generalize hR : Zdn s = R at *
  by_cases hlt : s < 64
  · have c1 : ((s : Int) < 64) = True := by simp; omega
    have ap : ∀ (id g : Nat) (H : Heap) (kd : Kd), 2 < H.length → appA 24 id g 1 2 gr s none 6 H (some (grO (fR (.c (some 2))) R)) (some (.cells [.arr [.int .i64 (((s + 63) % 64 : Nat) : Int), .int .i64 0, .int .i64 (s : Int), .int .i64 0] 2 2 (some 2)] kd)) = some (.sl 2 g 1 0 (s + 1) none, H.set 2 (some (g, grO (fR (.c (some 2))) (R ++ [[((((s + 63) % 64 : Nat) : Int), 0), ((s : Int), 0)]]))), [6, 2], [2]) := fun id g H kd hh => Zad (k := .c (some 2)) (r := [((((s + 63) % 64 : Nat) : Int), 0), ((s : Int), 0)]) 24 2 gr 6 R kd hl.symm (by omega) (by decide) hh
    rw [← hsn] at ap
    simp (disch := first | exact dK | fail) only [go_sem, Nat.reduceAdd, Nat.reduceMul, Nat.reduceSub, Nat.reduceLeDiff, Nat.reduceLT, Nat.reduceEqDiff, h1, h2, he, w1, w2, d2, Zan, Zaf, Zai, List.getD_cons_zero, Zam, Zao, Zap, Zah, Zaj, Zae, Zad, Zag, hT, c1, f28, Zbc, ap]
    exact ⟨_, _, _, _, rfl, .inl ⟨rfl, k1 - 1, by omega, s + 1, _, _, by omega, ⟨gQ he, gQ h1, gQ he⟩, rfl⟩⟩
  · have hi' : s = 64 := by omega
    subst hi'
    simp (disch := first | exact dJ | fail) only [go_sem, Nat.reduceAdd, Nat.reduceMul, Nat.reduceSub, Nat.reduceLeDiff, Nat.reduceLT, Nat.reduceEqDiff, h1, h2, he, w1, Zan, Zaf, Zai, List.getD_cons_zero, Zam, Zao, Zap, Zah, Zaj, Zae, Zad, Zag, hT]
    rw [← hR]
    exact ⟨_, _, _, _, rfl, .inr ⟨by simp, rfl, ⟨_, rfl⟩, gQ he, gQ h1⟩⟩
theorem Zoa {s : Nat} (h : s < 64) : (Zdn 64).getD s [] = [((((s + 63) % 64 : Nat) : Int), 0), ((s : Int), 0)] := by
  simp [Zdn, List.getD_eq_getElem?_getD, h]
theorem Zyk : OKM 2 1 (Zdn 64) := by
  have hl : (Zdn 64).length = 64 := by simp [Zdn]
  refine ⟨by omega, by omega, by omega, by omega, by omega, by omega, fun s hs => ?_, fun s hs i hi => .inr ?_⟩
  · rw [Zoa (by omega)]; rfl
  · unfold edg
    rw [Zoa (by omega), hl]
    have : (s + 63) % 64 < 64 := Nat.mod_lt _ (by omega)
    rcases (by omega : i = 0 ∨ i = 1) with rfl | rfl
    · simp only [List.getD_cons_zero]; omega
    · simp only [List.getD_cons_succ, List.getD_cons_zero]; omega
/-- How often a word has 0. -/
def zs : Word → Nat
  | [] => 0
  | i :: w => (if i = 0 then 1 else 0) + zs w
theorem zs_le : ∀ w, zs w ≤ w.length
  | [] => Nat.le_refl _
  | i :: w => by
    have := zs_le w
    unfold zs
    rw [List.length_cons]
    split <;> omega
theorem Ycw : ∀ d, zs (List.replicate d 0) = d
  | 0 => rfl
  | d + 1 => by rw [List.replicate_succ]; unfold zs; rw [Ycw d, if_pos rfl]; omega
theorem Zkj : ∀ (w : Word), Wd 2 w → ∀ s : Nat, s < 64 → aft (Zdn 64) s w = ((s + 63 * zs w) % 64 : Nat)
  | [], _, s, hs => by unfold aft zs; rw [Nat.mul_zero, Nat.add_zero, Nat.mod_eq_of_lt hs]
  | i :: w, hw, s, hs => by
    have hi := hw i List.mem_cons_self
    have hw' : Wd 2 w := fun x hx => hw x (List.mem_cons_of_mem _ hx)
    unfold aft zs nxt
    rw [if_neg (by omega)]
    unfold edg
    rw [Int.toNat_natCast, Zoa hs]
    rcases (by omega : i = 0 ∨ i = 1) with rfl | rfl
    · show aft (Zdn 64) (((s + 63) % 64 : Nat) : Int) w = _
      rw [Zkj w hw' _ (Nat.mod_lt _ (by omega)), if_pos rfl]
      congr 1; omega
    · show aft (Zdn 64) (s : Int) w = _
      rw [Zkj w hw' _ hs, if_neg (by omega), Nat.zero_add]
theorem Zjc {fr t d : Nat} (hf : fr < 64) (hd : d ≤ 63) (ht : (fr + 63 * d) % 64 = t) {r : List (Nat × Word)} (hF : Fifo (Zdn 64) 2 fr [[]] [] r) (hI : FInv (Zdn 64) 2 fr [] r) : ∃ w, lk r t = some w ∧ w.length = d := by
  have hl : (Zdn 64).length = 64 := by simp [Zdn]
  have hw : Wd 2 (List.replicate d 0) := fun x hx => by rw [List.eq_of_mem_replicate hx]; omega
  have h1 := Zkj _ hw fr hf
  rw [Ycw, ht] at h1
  obtain ⟨v, h2, h3⟩ := Fifo.least Zyk (fr := (fr : Int)) ⟨by omega, by rw [hl]; omega⟩ (by omega) hF hI d _ (by simp) hw t h1
  refine ⟨v, h2, ?_⟩
  obtain ⟨h4, h5, h6⟩ := hI.at_ t v h2
  have h7 : v.length ≤ d := by
    rcases h3 with rfl | h3
    · simp
    · have := (Zem _ _).mp h3
      simp only [List.length_replicate] at this
      omega
  rw [Zkj v h6 fr hf] at h4
  have h8 := zs_le v
  have h9 : (fr + 63 * zs v) % 64 = t := by omega
  omega
end Go.AM
