/- Maps from numbers to numbers; a closure that looks into one. -/
import Derived.Test.YteooegmokbbeoaaGauGa
set_option linter.unusedVariables false
set_option linter.unusedSimpArgs false
namespace Go.AM
theorem Zgy {H K : Heap} {i : Nat} (x : Option (Nat × O)) (h : i < H.length) : (H ++ K).set i x = H.set i x ++ K := by
  rw [List.set_append_left _ _ h]
def mE (l : List (Int × Int)) : List (V × V) := l.map fun p => (.int .i64 p.1, .int .i64 p.2)
def mK (l : List (Int × Int)) : List V := l.map fun p => .int .i64 p.1
def mV (l : List (Int × Int)) : List V := l.map fun p => .int .i64 p.2
theorem mE_1 (l : List (Int × Int)) : (mE l).map (·.1) = mK l := by simp [mE, mK]
theorem mE_2 (l : List (Int × Int)) : (mE l).map (·.2) = mV l := by simp [mE, mV]
theorem Ygw (l : List (Int × Int)) : (mK l).zip (mV l) = mE l := by
  induction l with
  | nil => rfl
  | cons a t ih => simp only [mK, mV, mE, List.map_cons, List.zip_cons_cons] at ih ⊢; rw [ih]
theorem Yet (l : List (Int × Int)) : Zak.pureL (mK l) = true := by
  induction l with
  | nil => rfl
  | cons a t ih => simp only [mK, List.map_cons, Zax, Zbe, Bool.true_and] at ih ⊢; exact ih
theorem Ygd (l : List (Int × Int)) : Zak.pureL (mV l) = true := by
  induction l with
  | nil => rfl
  | cons a t ih => simp only [mV, List.map_cons, Zax, Zbe, Bool.true_and] at ih ⊢; exact ih
def ixM : List (Int × Int) → Int → Nat → Option Nat
  | [], _, _ => none
  | (a, _) :: l, k, i => if k = a then some i else ixM l k (i + 1)
def Zgj : List (Int × Int) → Int → Option Int
  | [], _ => none
  | (a, b) :: l, k => if k = a then some b else Zgj l k
def putM : List (Int × Int) → Int → Int → List (Int × Int)
  | [], k, v => [(k, v)]
  | (a, b) :: l, k, v => if k = a then (k, v) :: l else (a, b) :: putM l k v
theorem Zke (k : Int) : ∀ (l : List (Int × Int)) (i : Nat), Zgi false [.i] (.int .i64 k) (mE l) i = some (ixM l k i)
  | [], i => rfl
  | (a, b) :: l, i => by
    have ih := Zke k l (i + 1)
    unfold mE at ih ⊢
    simp only [List.map_cons, Zgi, eqK, eqS, if_true, ixM]
    by_cases h : k = a
    · simp [h]
    · have : (k == a) = false := by simpa using h
      rw [this, if_neg h]; exact ih
theorem Ycr {k : Int} : ∀ {l : List (Int × Int)} {i j : Nat}, ixM l k i = some j → i ≤ j
  | [], i, j, h => by cases h
  | (a, b) :: l, i, j, h => by
    simp only [ixM] at h
    split at h
    · cases h; exact Nat.le_refl _
    · have := Ycr h; omega
theorem Zki {k : Int} : ∀ {l : List (Int × Int)} {i : Nat}, ixM l k i = none → Zgj l k = none ∧ ∀ v, putM l k v = l ++ [(k, v)]
  | [], i, h => ⟨rfl, fun v => rfl⟩
  | (a, b) :: l, i, h => by
    simp only [ixM] at h
    split at h
    · cases h
    · rename_i hk
      have := Zki h
      exact ⟨by simp only [Zgj, if_neg hk]; exact this.1, fun v => by simp only [putM, if_neg hk, this.2 v]; rfl⟩
theorem Zkf {k : Int} : ∀ {l : List (Int × Int)} {i j : Nat}, ixM l k i = some j → (∃ v, (mE l)[j - i]? = some (.int .i64 k, .int .i64 v) ∧ Zgj l k = some v) ∧ ∀ v, mE (putM l k v) = (mE l).set (j - i) (.int .i64 k, .int .i64 v)
  | [], i, j, h => by cases h
  | (a, b) :: l, i, j, h => by
    simp only [ixM] at h
    split at h
    · rename_i hk
      cases h; subst hk
      refine ⟨⟨b, by simp [mE], by simp [Zgj]⟩, fun v => by simp [mE, putM]⟩
    · rename_i hk
      obtain ⟨⟨v, h1, h2⟩, h3⟩ := Zkf h
      have hge := Ycr h
      have e : j - i = (j - (i + 1)) + 1 := by omega
      refine ⟨⟨v, ?_, by simp only [Zgj, if_neg hk]; exact h2⟩, fun v => ?_⟩
      · rw [e]; simpa [mE] using h1
      · have := h3 v
        rw [e]; simp only [putM, if_neg hk]; simpa [mE] using this
section
variable {P : Zce} {own : List (Nat × Nat)} {id g : Nat} {H : Heap}
theorem o_mup (a b c : Opd) (i gi : Nat) (k v : Int) (l : List (Int × Int)) (hg : getH H i gi = some (.map (mE l))) : opR P own id g (.mup false [.i] a b c) [.mp i gi, .int .i64 k, .int .i64 v] H = some (.junk, H.set i (some (gi, .map (mE (putM l k v)))), [i], [i]) := by
  have hi := Zbu hg
  have hw : Zcc (.int .i64 v) = true ∧ Zly false [.i] (.int .i64 k) = true := ⟨rfl, rfl⟩
  unfold opR Zaz
  simp only [hw, and_self, if_true, runP, hg, Zke]
  cases h : ixM l k 0 with
  | none =>
    have := (Zki h).2 v
    simp only [runP, hi, if_true, this]
    simp [mE]
  | some j =>
    have := (Zkf h).2 v
    simp only [Nat.sub_zero] at this
    simp only [runP, hi, if_true, this]
def mupR (i gi : Nat) (k v : Int) (H : Heap) : Option O → OpR
  | some (.map es) => match Zgi false [.i] (.int .i64 k) es 0 with
    | some (some j) => some (.junk, H.set i (some (gi, .map (es.set j (.int .i64 k, .int .i64 v)))), [i], [i])
    | some none => some (.junk, H.set i (some (gi, .map (es ++ [(.int .i64 k, .int .i64 v)]))), [i], [i])
    | none => none
  | _ => none
theorem Ycn (a b c : Opd) (i gi : Nat) (k v : Int) : opR P own id g (.mup false [.i] a b c) [.mp i gi, .int .i64 k, .int .i64 v] H = mupR i gi k v H (getH H i gi) := by
  have hw : Zcc (.int .i64 v) = true ∧ Zly false [.i] (.int .i64 k) = true := ⟨rfl, rfl⟩
  unfold opR Zaz
  simp only [hw, and_self, if_true, runP]
  cases hg : getH H i gi with
  | none => rfl
  | some o =>
    have hi := Zbu hg
    cases o with
    | map es =>
      simp only [mupR]
      cases Zgi false [.i] (.int .i64 k) es 0 with
      | none => rfl
      | some q => cases q <;> simp only [runP, hi, if_true]
    | cells cs kd => rfl
    | loop => rfl
theorem Zvs (i gi : Nat) (k v : Int) (l : List (Int × Int)) : mupR i gi k v H (some (.map (mE l))) = some (.junk, H.set i (some (gi, .map (mE (putM l k v)))), [i], [i]) := by
  simp only [mupR, Zke]
  cases h : ixM l k 0 with
  | none =>
    have := (Zki h).2 v
    simp only [this]
    simp [mE]
  | some j =>
    have := (Zkf h).2 v
    simp only [Nat.sub_zero] at this
    simp only [this]
theorem o_mkm (hi : id < H.length) : opR P own id g (.mkm none) [] H = some (.mp id g, H.set id (some (g, .map (mE []))), [], [id]) := by
  show runP (.wr id _ (.ret _)) H = _
  simp only [runP, hi, if_true]; rfl
theorem o_lkpF (x y : Opd) (k : Int) (l : List (Int × Int)) : opR P own id g (.lkp false [.i] (.int .i64 0) false x y) [.mpf (mK l) (mV l), .int .i64 k] H = some (.int .i64 ((Zgj l k).getD 0), H, [], []) := by
  have hw : Zly false [.i] (.int .i64 k) = true := rfl
  unfold opR Zaz
  simp only [hw, if_true, Ygw, Zke]
  cases h : ixM l k 0 with
  | none => simp only [runP, (Zki h).1]; rfl
  | some j =>
    obtain ⟨v, h1, h2⟩ := (Zkf h).1
    simp only [Nat.sub_zero] at h1
    simp only [h1, runP, h2]; rfl
/-- A call of a closure that has a pointer to a map. -/
theorem Yfe (x : Opd) (ys : List Opd) (f : Nat) (v : V) (i gi mi mg : Nat) (l : List (Int × Int)) (kd : Kd) (hk : Zcs kd = true) (hv : Zak v = true) (hg : getH H i gi = some (.cells [.mp mi mg] kd)) (hm : getH H mi mg = some (.map (mE l))) :
    opR P own id g (.call .iso x ys) [.fn f [] [.ptr i gi 0], v] H = isoF [i, mi] H (Zaq P (X P) false f [v, .pf [.mpf (mK l) (mV l)] 0]) := by
  show runP (Zbg false 9 ([] ++ [v] ++ [.ptr i gi 0]) fun args' => match Zaq P (X P) false f args' with
      | some (v', none) => if Zak.pureL ([] ++ [v] ++ [.ptr i gi 0]) || Zcz v' then .ret v' else .no
      | _ => .no) H = _
  have hn : Zak.pureL [v, .ptr i gi 0] = false := by simp [Zax, hv, Zak]
  simp only [List.nil_append, List.cons_append, Zbg, hn, Bool.false_eq_true, if_false, Zby, Zdw _ _ _ hv]
  rw [Zav]
  simp only [Zak, Bool.false_eq_true, if_false, runP, hg]
  cases kd <;> simp only [Zcs, Bool.false_eq_true] at hk <;> simp only [Zby] <;> (
    rw [Zav]
    simp only [Zak, Bool.false_eq_true, if_false, runP, hm, mE_1, mE_2, Yet, if_true, Zjv _ _ _ (Ygd l)]
    cases Zaq P (X P) false f [v, .pf [.mpf (mK l) (mV l)] 0] with
    | none => rfl
    | some q =>
      obtain ⟨v', o⟩ := q
      cases o with
      | none => simp only [isoF, Bool.false_or]; by_cases hf : Zcz v' = true <;> simp [hf, runP]
      | some o => rfl)
end
theorem f63 (a b : Int) (l : List (Int × Int)) : Zaq AP (X AP) false 63 [.agg [.int .i64 a, .int .i64 b], .pf [.mpf (mK l) (mV l)] 0] = some (.agg [.int .i64 ((Zgj l a).getD 0), .int .i64 b], none) := by
  obtain ⟨e, he, hg, hx⟩ := Zat AP63 (args := [.agg [.int .i64 a, .int .i64 b], .pf [.mpf (mK l) (mV l)] 0]) rfl (by decide)
  have he : e.length = 11 := he
  have h0 : getE e 0 = .agg [.int .i64 a, .int .i64 b] := hg 0 (by simp only [List.length_cons]; omega)
  have h1 : getE e 1 = .pf [.mpf (mK l) (mV l)] 0 := hg 1 (by simp only [List.length_cons]; omega)
  rw [hx]; clear hx hg; unfold c63
  simp (disch := first | exact dJ | fail) only [go_sem, Nat.reduceAdd, Nat.reduceMul, Nat.reduceSub, Nat.reduceLeDiff, Nat.reduceLT, Nat.reduceEqDiff, h0, h1, he, Zan, Zaf, Zai, List.getD_cons_zero, Zam, Zao, Zap, Zah, Zaj, Zae, Zad, Zag, o_lkpF]
end Go.AM

set_option linter.unusedVariables false
set_option linter.unusedSimpArgs false
namespace Go.AM
/-- References to rows that lie side by side. -/
def refL (m : Nat) : Nat → List Nat → List V
  | _, [] => []
  | b, g :: gs => .sl b g 2 0 m (some m) :: refL m (b + 1) gs
theorem Zir (m : Nat) : ∀ (b : Nat) (gs : List Nat), (refL m b gs).length = gs.length
  | _, [] => rfl
  | b, g :: gs => by simp only [refL, List.length_cons, Zir m (b + 1) gs]
theorem Zqi (m : Nat) : ∀ (b : Nat) (gs : List Nat) (g : Nat), refL m b (gs ++ [g]) = refL m b gs ++ [.sl (b + gs.length) g 2 0 m (some m)]
  | b, [], g => rfl
  | b, x :: gs, g => by
    simp only [List.cons_append, refL, Zqi m (b + 1) gs g, List.length_cons]
    rw [show b + 1 + gs.length = b + (gs.length + 1) by omega]
theorem Zut (m n b g : Nat) (gs : List Nat) (h : gs.length < n) : Zbf (refL m b gs ++ List.replicate (n - gs.length) .nils) gs.length [.sl (b + gs.length) g 2 0 m (some m)] = refL m b (gs ++ [g]) ++ List.replicate (n - (gs.length + 1)) .nils := by
  rw [Zqi]
  unfold Zbf
  have hl := Zir m b gs
  rw [List.take_append_of_le_length (by omega), List.take_of_length_le (by omega)]
  rw [List.drop_append, List.drop_eq_nil_of_le (by simp [hl])]
  simp [hl, List.append_assoc]
  omega
theorem ref_ld (m n b : Nat) (gs : List Nat) (g j : Nat) (h : gs[j]? = some g) : ldC 1 false j (refL m b gs ++ List.replicate (n - gs.length) .nils) = some (.sl (b + j) g 2 0 m (some m)) := by
  have hl := Zir m b gs
  obtain ⟨hj, _⟩ := List.getElem?_eq_some_iff.mp h
  have key : ∀ (b : Nat) (gs : List Nat) (j : Nat), gs[j]? = some g → (refL m b gs)[j]? = some (.sl (b + j) g 2 0 m (some m)) := by
    intro b gs
    induction gs generalizing b with
    | nil => intro j h; simp at h
    | cons x gs ih =>
      intro j h
      cases j with
      | zero => simp at h; subst h; simp [refL]
      | succ j => simp at h; have := ih (b + 1) j h; simp only [refL, List.getElem?_cons_succ, this]; rw [show b + 1 + j = b + (j + 1) by omega]
  have k1 := key b gs j h
  unfold ldC
  rw [if_pos (by simp [hl]; omega)]
  have : cut (refL m b gs ++ List.replicate (n - gs.length) .nils) j 1 = [.sl (b + j) g 2 0 m (some m)] := by
    unfold cut
    rw [List.drop_append_of_le_length (by omega), List.take_append_of_le_length (by simp [hl]; omega)]
    have h2 : j < (refL m b gs).length := by omega
    rw [List.drop_eq_getElem_cons h2]
    simp only [List.take_succ_cons, List.take_zero, List.cons.injEq, and_true]
    rw [List.getElem?_eq_getElem h2] at k1
    exact Option.some.inj k1
  rw [this]; rfl
/-- Rows that are frozen one after the other. -/
theorem Zou {m d : Nat} : ∀ (gs : List Nat) (rs : List (List (Int × Int))) (b : Nat) (H : Heap) (k : List V → Plan), gs.length = rs.length → (∀ j g, gs[j]? = some g → getH H (b + j) g = some (.cells ((rs.getD j []).flatMap fE) .fixed)) → (∀ r ∈ rs, r.length = m) →
    ∃ H', (runP (Zby (Zav true (d + 1)) (refL m b gs) k) H).map (·.1) = (runP (k (rs.flatMap (fR (.c (some m))))) H').map (·.1) ∧ (∀ i g, i < b → getH H' i g = getH H i g) ∧ H'.length = H.length
  | [], rs, b, H, k, hl, hg, hm => by
    cases rs with
    | nil => exact ⟨H, rfl, fun _ _ _ => rfl, rfl⟩
    | cons a t => simp at hl
  | g :: gs, rs, b, H, k, hl, hg, hm => by
    cases rs with
    | nil => simp at hl
    | cons r rs =>
      have h0 := hg 0 g rfl
      simp only [Nat.add_zero, List.getD_cons_zero] at h0
      have hr := hm r List.mem_cons_self
      obtain ⟨H', h1, h2, h3⟩ := Zou (d := d) gs rs (b + 1) (H.set b (some (g, .cells (r.flatMap fE) .froz))) (fun vs => k (enS fE 2 r (.c (some m)) :: vs)) (by simpa using hl)
        (fun j g' hj => by rw [Zal _ (by omega)]; have := hg (j + 1) g' (by simpa using hj); rw [show b + 1 + j = b + (j + 1) by omega]; simpa using this) (fun r hr => hm r (List.mem_cons_of_mem _ hr))
      refine ⟨H', ?_, fun i g' hi => by rw [h2 i g' (by omega), Zal _ (by omega)], by rw [h3, List.length_set]⟩
      simp only [refL, Zby]
      rw [Zgo (f := fE) d b g (some m) r .fixed _ rfl hr.symm h0]
      rw [Option.map_map]
      simp only [List.flatMap_cons]
      rw [show fR (.c (some m)) r ++ rs.flatMap (fR (.c (some m))) = enS fE 2 r (.c (some m)) :: rs.flatMap (fR (.c (some m))) from rfl, ← h1]
      rfl
theorem Zvr {H : Heap} {i gi n m b : Nat} {a1 a2 : V} {gs : List Nat} {rs : List (List (Int × Int))} {c : Option Nat} (h1 : Zak a1 = true) (h2 : Zak a2 = true) (hn : n = rs.length) (hne : rs ≠ []) (hl : gs.length = rs.length) (hib : i < b) (hg : getH H i gi = some (.cells (refL m b gs) .fixed))
    (hr : ∀ j g, gs[j]? = some g → getH H (b + j) g = some (.cells ((rs.getD j []).flatMap fE) .fixed)) (hm : ∀ r ∈ rs, r.length = m) : frzO H (some (.agg [a1, a2, .sl i gi 1 0 n c])) = some (.agg [a1, a2, enS (fR (.c (some m))) 1 rs (.c c)], none) := by
  have hi := Zbu hg
  have hrl := Zir m b gs
  unfold frzO Zdm
  simp only
  have hnp : Zak.pureL (refL m b gs) = false := by
    cases gs with
    | nil => simp at hl; exact absurd (List.eq_nil_of_length_eq_zero hl.symm) hne
    | cons g gs => simp [refL, Zax, Zak]
  have e1 : (runP (Zav true 9 (.agg [a1, a2, .sl i gi 1 0 n c]) .ret) H).map (·.1) = some (.agg [a1, a2, enS (fR (.c (some m))) 1 rs (.c c)]) := by
    rw [Zav]
    simp only [Zak, Zak.pureL, h1, h2, Bool.true_and, Bool.and_true, Bool.false_eq_true, if_false, Zby, Zcn _ _ _ h1, Zcn _ _ _ h2]
    rw [Zav]
    have hle : 0 + n * 1 ≤ (refL m b gs).length := by omega
    simp only [Zak, Bool.false_eq_true, if_false, runP, hg, hle, if_true, hnp]
    obtain ⟨H', q1, q2, q3⟩ := Zou (d := 6) gs rs b H (fun cs' => frzK true i gi 1 0 n c .fixed (fun v => .ret (.agg [a1, a2, v])) cs') hl hr hm
    have q4 : runP (frzK true i gi 1 0 n c .fixed (fun v => .ret (.agg [a1, a2, v])) (rs.flatMap (fR (.c (some m))))) H' = some (.agg [a1, a2, .arr (cut (rs.flatMap (fR (.c (some m)))) 0 (n * 1)) 1 n c], H'.set i (some (gi, .cells (rs.flatMap (fR (.c (some m)))) .froz)), [], [i]) := by
      unfold frzK
      simp only [if_true, runP, show i < H'.length by omega]
    rw [q4] at q1
    have hc : cut (rs.flatMap (fR (.c (some m)))) 0 (n * 1) = rs.flatMap (fR (.c (some m))) := by subst hn; exact Zbt (f := fR (.c (some m))) (sz := 1) (fun _ => rfl) rs
    rw [hc] at q1
    simp only [Option.map_some] at q1
    cases hx : runP (Zby (Zav true 7) (refL m b gs) (fun cs' => frzK true i gi 1 0 n c .fixed (fun v => .ret (.agg [a1, a2, v])) cs')) H with
    | none => rw [hx] at q1; cases q1
    | some q =>
      rw [hx] at q1
      simp only [Option.map_some, Option.some.injEq] at q1 ⊢
      rw [q1]
      subst hn
      rfl
  cases hx : runP (Zav true 9 (.agg [a1, a2, .sl i gi 1 0 n c]) .ret) H with
  | none => rw [hx] at e1; cases e1
  | some q =>
    rw [hx] at e1
    simp only [Option.map_some, Option.some.injEq] at e1
    obtain ⟨v', r⟩ := q
    simp only at e1
    rw [e1]
end Go.AM

set_option linter.unusedVariables false
set_option linter.unusedSimpArgs false
namespace Go.AM
section
variable {k k' : SC} {ins outs : Nat} {rows : List (List (Int × Int))}
/-- Where each state goes. -/
def atM (l : List Int) : Nat → List (Int × Int)
  | 0 => [(-1, -1)]
  | j + 1 => putM (atM l j) (l.getD j 0) j
theorem L32_1 {l : List Int} {kl : SC} (hl : l.length ≤ 1000) {x0 x1 : Option (Nat × O)} {e : List V} {g : Nat} (h : e.length = 74 ∧ getE e 1 = ints l kl ∧ getE e 2 = .ptr 0 0 0 ∧ getE e 4 = .ptr 1 1 0 ∧ getE e 5 = .ptr 3 3 0 ∧ getE e 16 = ints l kl ∧ getE e 17 = .int .i64 l.length ∧ getE e 18 = .int .i64 (0 : Nat)) :
    ∃ ex e' H' g', X AP (.inl (some 4) Ydi) ⟨e, [x0, x1, some (2, .map (mE [(-1, -1)])), some (3, .cells [.mp 2 2] .fixed)], g, none⟩ = some (ex, ⟨e', H', g', none⟩) ∧ ex = .exit 0 ∧ H' = [x0, x1, some (2, .map (mE (atM l l.length))), some (3, .cells [.mp 2 2] .fixed)] ∧ e'.length = 74 ∧ getE e' 1 = ints l kl ∧ getE e' 2 = .ptr 0 0 0 ∧ getE e' 4 = .ptr 1 1 0 ∧ getE e' 5 = .ptr 3 3 0 := by
  refine Zbx (fun k1 e H g => ∃ (i : Nat), k1 + i = l.length ∧ (e.length = 74 ∧ getE e 1 = ints l kl ∧ getE e 2 = .ptr 0 0 0 ∧ getE e 4 = .ptr 1 1 0 ∧ getE e 5 = .ptr 3 3 0 ∧ getE e 16 = ints l kl ∧ getE e 17 = .int .i64 l.length ∧ getE e 18 = .int .i64 i) ∧ H = [x0, x1, some (2, .map (mE (atM l i))), some (3, .cells [.mp 2 2] .fixed)]) _ ?_ l.length e _ g ⟨0, by omega, h, rfl⟩
  rintro k1 e H g ⟨i, hk, ⟨he, h1, h2, h4, h5, h16, h17, h18⟩, rfl⟩
  unfold Ydi
  have w1 : IntKind.i64.wrap ((i : Int) + 1) = ((i + 1 : Nat) : Int) := by rw [Zay (by omega) (by omega)]; rfl
  by_cases hlt : i < l.length
  · have hs : atM l (i + 1) = putM (atM l i) (l.getD i 0) i := rfl
    simp (disch := first | exact dJ | fail) only [go_sem, Nat.reduceAdd, Nat.reduceMul, Nat.reduceSub, Nat.reduceLeDiff, Nat.reduceLT, Nat.reduceEqDiff, h1, h2, h4, h5, h16, h17, h18, he, w1, Zan, Zaf, Zai, List.getD_cons_zero, Zam, Zao, Zap, Zah, Zaj, Zae, Zad, Zag, Ycn, Zvs]
    exact ⟨_, _, _, _, rfl, .inl ⟨rfl, k1 - 1, by omega, i + 1, by omega, ⟨gQ he, gQ h1, gQ h2, gQ h4, gQ h5, gQ h16, gQ h17, gQ he⟩, by rw [hs] <;> rfl⟩⟩
  · have hi : i = l.length := by omega
    subst hi
    simp (disch := first | exact dJ | fail) only [go_sem, Nat.reduceAdd, Nat.reduceMul, Nat.reduceSub, Nat.reduceLeDiff, Nat.reduceLT, Nat.reduceEqDiff, h1, h2, h4, h5, h16, h17, h18, he, w1, Zan, Zaf, Zai, List.getD_cons_zero, Zam, Zao, Zap, Zah, Zaj, Zae, Zad, Zag]
    exact ⟨_, _, _, _, rfl, .inr ⟨by simp, rfl, rfl, gQ he, gQ h1, gQ h2, gQ h4, gQ h5⟩⟩
def movM (M : List (Int × Int)) (x : Int × Int) : Int × Int := ((Zgj M x.1).getD 0, x.2)
structure I32 (k k' : SC) (ins outs : Nat) (rows : List (List (Int × Int))) (M : List (Int × Int)) (g4 g5 n j : Nat) (gs : List Nat) (R : Nat → List (Int × Int)) (H : Heap) : Prop where
  len : H.length = 6 + j
  gl : gs.length = j
  a0 : getH H 0 0 = some (oM k k' ins outs rows)
  a1 : getH H 1 1 = some (.cells [.int .i64 0, .int .i64 0, .nils] .fixed)
  a2 : getH H 2 2 = some (.map (mE M))
  a3 : getH H 3 3 = some (.cells [.mp 2 2] .fixed)
  a4 : getH H 4 g4 = some (.cells (refL ins 6 gs ++ List.replicate (n - gs.length) .nils) .fixed)
  a5 : getH H 5 g5 = some (.cells [.int .i64 ins, .int .i64 outs, .sl 4 g4 1 0 n (some n)] .fixed)
  ar : ∀ i g, gs[i]? = some g → getH H (6 + i) g = some (.cells ((R i).flatMap fE) .fixed)
theorem Zyu {l : List (Int × Int)} {i : Nat} {a b : Int} (h : i < l.length) : Zbf (l.flatMap fE) (i * 2) [.int .i64 a, .int .i64 b] = (l.set i (a, b)).flatMap fE := Zeo (f := fE) l i (a, b) h
theorem Ziz (l : List (Int × Int)) : (l.flatMap fE).length = l.length * 2 := Zbn (f := fE) l
/-- A row of which the first places are filled. -/
def Zfk (f : Int × Int → Int × Int) (row : List (Int × Int)) (i : Nat) : List (Int × Int) := (row.take i).map f ++ List.replicate (row.length - i) (0, 0)
theorem Zzj (f : Int × Int → Int × Int) (row : List (Int × Int)) (i : Nat) (h : i ≤ row.length) : (Zfk f row i).length = row.length := by simp [Zfk]; omega
theorem Zyy (f : Int × Int → Int × Int) (row : List (Int × Int)) (i : Nat) (h : i < row.length) : (Zfk f row i).set i (f (row.getD i (0, 0))) = Zfk f row (i + 1) := by
  unfold Zfk
  have hl : ((row.take i).map f).length = i := by simp; omega
  rw [List.set_append_right _ _ (by omega), hl, Nat.sub_self]
  have h2 : (row.take (i + 1)).map f = (row.take i).map f ++ [f (row.getD i (0, 0))] := by
    rw [List.take_add_one, List.map_append, List.getD_eq_getElem?_getD, List.getElem?_eq_getElem h]; rfl
  rw [show row.length - i = (row.length - (i + 1)) + 1 by omega, List.replicate_succ, List.set_cons_zero, h2, List.append_assoc]
  rfl
theorem Zyw (f : Int × Int → Int × Int) (row : List (Int × Int)) : Zfk f row row.length = row.map f := by simp [Zfk]
theorem L32_3 {M : List (Int × Int)} {g4 g5 n j : Nat} {H : Heap} (hi2 : ins ≤ 16) {gr : Nat} {row : List (Int × Int)} {kr : SC} (hrow : row.length = ins) (hb : H.length = 6 + j) (hj : j < n) (b2 : getH H 2 2 = some (.map (mE M))) (b3 : getH H 3 3 = some (.cells [.mp 2 2] .fixed))
    {cs : List V} (b4 : getH H 4 g4 = some (.cells cs .fixed)) (b4r : ldC 1 false (j * 1) cs = some (.sl (6 + j) gr 2 0 ins (some ins))) (b5 : getH H 5 g5 = some (.cells [.int .i64 ins, .int .i64 outs, .sl 4 g4 1 0 n (some n)] .fixed))
    {v2 v4 v36 v37 : V} {e : List V} {g : Nat} (h : e.length = 74 ∧ getE e 2 = v2 ∧ getE e 4 = v4 ∧ getE e 8 = .fn 63 [] [.ptr 3 3 0] ∧ getE e 9 = .ptr 5 g5 0 ∧ getE e 10 = .int .i64 j ∧ getE e 36 = v36 ∧ getE e 37 = v37 ∧ getE e 38 = .int .i64 j ∧ getE e 54 = enS fE 2 row kr ∧ getE e 55 = .int .i64 ins ∧ getE e 56 = .int .i64 (0 : Nat)) :
    ∃ ex e' H' g', X AP (.inl (some (H.length + 1)) Ydz) ⟨e, H ++ [some (gr, .cells ((List.replicate ins (0, 0)).flatMap fE) .fixed)], g, none⟩ = some (ex, ⟨e', H', g', none⟩) ∧ ex = .exit 4 ∧ H' = H ++ [some (gr, .cells ((row.map (movM M)).flatMap fE) .fixed)] ∧ e'.length = 74 ∧ getE e' 2 = v2 ∧ getE e' 4 = v4 ∧ getE e' 8 = .fn 63 [] [.ptr 3 3 0] ∧ getE e' 9 = .ptr 5 g5 0 ∧ getE e' 36 = v36 ∧ getE e' 37 = v37 ∧ getE e' 38 = .int .i64 j := by
  refine Zbx (fun k1 e H' g => ∃ (i : Nat) (K : Heap), k1 + i = ins ∧ (e.length = 74 ∧ getE e 2 = v2 ∧ getE e 4 = v4 ∧ getE e 8 = .fn 63 [] [.ptr 3 3 0] ∧ getE e 9 = .ptr 5 g5 0 ∧ getE e 10 = .int .i64 j ∧ getE e 36 = v36 ∧ getE e 37 = v37 ∧ getE e 38 = .int .i64 j ∧ getE e 54 = enS fE 2 row kr ∧ getE e 55 = .int .i64 ins ∧ getE e 56 = .int .i64 i) ∧ H' = H ++ some (gr, .cells ((Zfk (movM M) row i).flatMap fE) .fixed) :: K) _ ?_ ins e _ g ⟨0, [], by omega, h, by simp [Zfk, hrow]⟩
  rintro k1 e H' g ⟨i, K, hk, ⟨he, h2, h4, h8, h9, h10, h36, h37, h38, h54, h55, h56⟩, rfl⟩
  unfold Ydz
  have w1 : IntKind.i64.wrap ((i : Int) + 1) = ((i + 1 : Nat) : Int) := by rw [Zay (by omega) (by omega)]; rfl
  have hT : (H ++ some (gr, O.cells ((Zfk (movM M) row i).flatMap fE) .fixed) :: K).take (H.length + 1) = H ++ [some (gr, O.cells ((Zfk (movM M) row i).flatMap fE) .fixed)] := by
    rw [List.take_append]; simp; exact List.take_of_length_le (by omega)
  have hbl : 6 + j = H.length := hb.symm
  rw [hbl] at b4r
  clear hbl
  by_cases hlt : i < ins
  · have hfl := Zzj (movM M) row i (by omega)
    have hfs := Zyy (movM M) row i (by omega)
    have hff : ((Zfk (movM M) row i).flatMap fE).length = ins * 2 := by rw [Ziz, hfl, hrow]
    have c63 := f63 (row.getD i (0, 0)).1 (row.getD i (0, 0)).2 M
    have hsp : Zbf ((Zfk (movM M) row i).flatMap fE) (i * 2) [.int .i64 ((Zgj M (row.getD i (0, 0)).1).getD 0), .int .i64 (row.getD i (0, 0)).2] = (Zfk (movM M) row (i + 1)).flatMap fE := by
      rw [Zyu (by omega), ← hfs]; rfl
    have hiso : ∀ (own : List (Nat × Nat)) (id g : Nat) (H' : Heap) (x : Opd) (ys : List Opd), getH H' 3 3 = some (.cells [.mp 2 2] .fixed) → getH H' 2 2 = some (.map (mE M)) → opR AP own id g (.call .iso x ys) [.fn 63 [] [.ptr 3 3 0], .agg [.int .i64 (row.getD i (0, 0)).1, .int .i64 (row.getD i (0, 0)).2]] H' = some (.agg [.int .i64 ((Zgj M (row.getD i (0, 0)).1).getD 0), .int .i64 (row.getD i (0, 0)).2], H', [3, 2], []) := fun own id g H' x ys q1 q2 => by
      rw [Yfe x ys 63 _ 3 3 2 2 M .fixed rfl (by simp [Zak, Zak.pureL]) q1 q2, c63]
      simp [isoF, Zcz, Zcz.flatL]
    clear c63
    have hd0 : getH (H ++ [some (gr, O.cells ((Zfk (movM M) row i).flatMap fE) .fixed)]) H.length gr = some (.cells ((Zfk (movM M) row i).flatMap fE) .fixed) := by rw [Zbm]; simp [getH]
    have hd2 : getH (H ++ [some (gr, O.cells ((Zfk (movM M) row i).flatMap fE) .fixed)]) 2 2 = _ := (Zar _ (by omega)).trans b2
    have hd3 : getH (H ++ [some (gr, O.cells ((Zfk (movM M) row i).flatMap fE) .fixed)]) 3 3 = _ := (Zar _ (by omega)).trans b3
    have hd4 : getH (H ++ [some (gr, O.cells ((Zfk (movM M) row i).flatMap fE) .fixed)]) 4 g4 = _ := (Zar _ (by omega)).trans b4
    have hd5 : getH (H ++ [some (gr, O.cells ((Zfk (movM M) row i).flatMap fE) .fixed)]) 5 g5 = _ := (Zar _ (by omega)).trans b5
    have hds : ∀ x, (H ++ [some (gr, O.cells ((Zfk (movM M) row i).flatMap fE) .fixed)]).set H.length x = H ++ [x] := fun x => Zbv H _ x []
    have hdl : (H ++ [some (gr, O.cells ((Zfk (movM M) row i).flatMap fE) .fixed)]).length = H.length + 1 := by simp
    generalize hHH : H ++ [some (gr, O.cells ((Zfk (movM M) row i).flatMap fE) .fixed)] = HH at *
    clear hHH b2 b3 b4 b5
    have hisoK := fun (own : List (Nat × Nat)) (id g : Nat) (K : Heap) (x : Opd) (ys : List Opd) => hiso own id g (HH ++ K) x ys ((Zar _ (by omega)).trans hd3) ((Zar _ (by omega)).trans hd2)
    clear hiso
    have hdl' := hdl.symm
    clear hdl
    simp only [hdl'] at hT ⊢
    simp (disch := first | exact dK | fail) only [go_sem, Nat.reduceAdd, Nat.reduceMul, Nat.reduceSub, Nat.reduceLeDiff, Nat.reduceLT, Nat.reduceEqDiff, h2, h4, h8, h9, h10, h36, h37, h38, h54, h55, h56, he, hT, w1, Zan, Zaf, Zai, List.getD_cons_zero, Zam, Zao, Zap, Zah, Zaj, Zae, Zad, Zag, Zar, hisoK, hd0, hd2, hd3, hd4, b4r, hd5, hsp, hff, Zbm, Zbr, List.append_assoc, Zbv, Zdq, Zgy, hds]
    exact ⟨_, _, _, _, rfl, .inl ⟨rfl, k1 - 1, by omega, i + 1, _, by omega, ⟨gQ he, gQ h2, gQ h4, gQ h8, gQ h9, gQ h10, gQ h36, gQ h37, gQ h38, gQ h54, gQ h55, gQ he⟩, rfl⟩⟩
  · have hi' : i = ins := by omega
    subst hi'
    simp (disch := first | exact dJ | fail) only [go_sem, Nat.reduceAdd, Nat.reduceMul, Nat.reduceSub, Nat.reduceLeDiff, Nat.reduceLT, Nat.reduceEqDiff, h2, h4, h8, h9, h10, h36, h37, h38, h54, h55, h56, he, hT]
    exact ⟨_, _, _, _, rfl, .inr ⟨by simp, rfl, by rw [← hrow, Zyw], gQ he, gQ h2, gQ h4, gQ h8, gQ h9, gQ h36, gQ h37, gQ h38⟩⟩
theorem L32_2 (hm : OKM ins outs rows) {l : List Int} {kl : SC} (hl : l.length ≤ 1000) (hr : ∀ x ∈ l, 0 ≤ x ∧ x < rows.length) {M : List (Int × Int)} {g4 g5 : Nat} {H : Heap} (hI : I32 k k' ins outs rows M g4 g5 l.length 0 [] (fun j => (rows.getD (l.getD j 0).toNat []).map (movM M)) H) {e : List V} {g : Nat} (h : e.length = 74 ∧ getE e 2 = .ptr 0 0 0 ∧ getE e 4 = .ptr 1 1 0 ∧ getE e 8 = .fn 63 [] [.ptr 3 3 0] ∧ getE e 9 = .ptr 5 g5 0 ∧ getE e 36 = ints l kl ∧ getE e 37 = .int .i64 l.length ∧ getE e 38 = .int .i64 (0 : Nat)) :
    ∃ ex e' H' g', X AP (.inl none Yeq) ⟨e, H, g, none⟩ = some (ex, ⟨e', H', g', none⟩) ∧ ex = .exit 2 ∧ (∃ gs, I32 k k' ins outs rows M g4 g5 l.length l.length gs (fun j => (rows.getD (l.getD j 0).toNat []).map (movM M)) H') ∧ e'.length = 74 ∧ getE e' 4 = .ptr 1 1 0 ∧ getE e' 9 = .ptr 5 g5 0 := by
  refine Zbx (fun k1 e H g => ∃ (j : Nat) (gs : List Nat), k1 + j = l.length ∧ (e.length = 74 ∧ getE e 2 = .ptr 0 0 0 ∧ getE e 4 = .ptr 1 1 0 ∧ getE e 8 = .fn 63 [] [.ptr 3 3 0] ∧ getE e 9 = .ptr 5 g5 0 ∧ getE e 36 = ints l kl ∧ getE e 37 = .int .i64 l.length ∧ getE e 38 = .int .i64 j) ∧ I32 k k' ins outs rows M g4 g5 l.length j gs (fun j => (rows.getD (l.getD j 0).toNat []).map (movM M)) H) _ ?_ l.length e _ g ⟨0, [], by omega, h, hI⟩
  rintro k1 e H g ⟨j, gs, hk, ⟨he, h2, h4, h8, h9, h36, h37, h38⟩, hI⟩
  unfold Yeq
  have hi2 := hm.i2
  have w1 : IntKind.i64.wrap ((j : Int) + 1) = ((j + 1 : Nat) : Int) := by rw [Zay (by omega) (by omega)]; rfl
  by_cases hlt : j < l.length
  · have hrj := hr (l.getD j 0) (Zci 0 hlt)
    obtain ⟨s, hs⟩ : ∃ s : Nat, l.getD j 0 = s := ⟨(l.getD j 0).toNat, by omega⟩
    have hsn : s < rows.length := by omega
    have hrow := hm.len s hsn
    obtain ⟨q1, q2, q3, q4, q5, q6, q7, q8, q9⟩ := hI
    have hcl : (refL ins 6 gs ++ List.replicate (l.length - gs.length) V.nils).length = l.length := by simp [Zir]; omega
    have hsp := fun gn => Zut ins l.length 6 gn gs (by omega)
    rw [q2, ← q1] at hsp
    rw [q2] at hcl q7
    have hrep : (List.replicate ins [V.int .i64 0, V.int .i64 0]).flatten = (List.replicate ins ((0 : Int), (0 : Int))).flatMap fE := Zhj (f := fE) ins (0, 0)
    generalize hcs : refL ins 6 gs ++ List.replicate (l.length - j) V.nils = cs at *
    simp (disch := first | exact dK | fail) only [go_sem, Nat.reduceAdd, Nat.reduceMul, Nat.reduceSub, Nat.reduceLeDiff, Nat.reduceLT, Nat.reduceEqDiff, h2, h4, h8, h9, h36, h37, h38, he, w1, Zan, Zaf, Zai, List.getD_cons_zero, Zam, Zao, Zap, Zah, Zaj, Zae, Zad, Zag, Zbc, q3, q4, q5, q6, q7, q8, Zar, hs, Zgy, hcl, hsp, hrep, Zbv, Zbm, hrow]
    generalize hE : putE _ _ _ = E
    have hEl : E.length = 74 := by subst hE; simp (disch := first | exact dG | fail) only [Zab, Zaa, Zac, he]
    have p2 : getE E 2 = .ptr 0 0 0 := by subst hE; exact gQ h2
    have p4 : getE E 4 = .ptr 1 1 0 := by subst hE; exact gQ h4
    have p8 : getE E 8 = .fn 63 [] [.ptr 3 3 0] := by subst hE; exact gQ h8
    have p9 : getE E 9 = .ptr 5 g5 0 := by subst hE; exact gQ h9
    have p10 : getE E 10 = .int .i64 j := by subst hE; exact gQ he
    have p36 : getE E 36 = ints l kl := by subst hE; exact gQ h36
    have p37 : getE E 37 = .int .i64 l.length := by subst hE; exact gQ h37
    have p38 : getE E 38 = .int .i64 j := by subst hE; exact gQ h38
    have p54 : getE E 54 = enS fE 2 (rows.getD s []) k' := by subst hE; exact gQ he
    have p55 : getE E 55 = .int .i64 ins := by subst hE; exact gQ he
    have p56 : getE E 56 = .int .i64 (0 : Nat) := by subst hE; exact gZ he
    clear hE
    have hsp1 := hsp g
    rw [Nat.mul_one, hsp1]
    have hld : ldC 1 false j (refL ins 6 (gs ++ [g]) ++ List.replicate (l.length - (j + 1)) V.nils) = some (.sl (6 + j) g 2 0 ins (some ins)) := by
      have := ref_ld ins l.length 6 (gs ++ [g]) g j (by rw [List.getElem?_append_right (by omega), q2]; simp)
      rw [List.length_append, q2] at this
      exact this
    have h4l : 4 < H.length := by omega
    obtain ⟨ex, e1, H1, g1, hx, rfl, rfl, he1, r2, r4, r8, r9, r36, r37, r38⟩ := L32_3 (outs := outs) (M := M) (g4 := g4) (g5 := g5) (n := l.length) (j := j) (ins := ins) hi2 (gr := g) (row := rows.getD s []) (kr := k') hrow
      (H := H.set 4 (some (g4, .cells (refL ins 6 (gs ++ [g]) ++ List.replicate (l.length - (j + 1)) V.nils) .fixed))) (by rw [List.length_set]; exact q1) hlt
      (by rw [Zal _ (by decide)]; exact q5) (by rw [Zal _ (by decide)]; exact q6) (Zas _ h4l) (by rw [Nat.mul_one]; exact hld) (by rw [Zal _ (by decide)]; exact q8) (g := g + 1) ⟨hEl, p2, p4, p8, p9, p10, p36, p37, p38, p54, p55, p56⟩
    rw [List.length_set] at hx
    rw [hx]
    simp (disch := first | exact dJ | fail) only [go_sem, Nat.reduceAdd, Nat.reduceMul, Nat.reduceSub, Nat.reduceLeDiff, Nat.reduceLT, Nat.reduceEqDiff, r2, r4, r8, r9, r36, r37, r38, he1, w1]
    refine ⟨_, _, _, _, rfl, .inl ⟨rfl, k1 - 1, by omega, j + 1, gs ++ [g], by omega, ⟨gQ he1, gQ r2, gQ r4, gQ r8, gQ r9, gQ r36, gQ r37, gQ he1⟩, ?_⟩⟩
    refine ⟨by simp; omega, by simp [q2], ?_, ?_, ?_, ?_, ?_, ?_, ?_⟩
    · rw [Zar _ (by rw [List.length_set]; omega), Zal _ (by decide)]; exact q3
    · rw [Zar _ (by rw [List.length_set]; omega), Zal _ (by decide)]; exact q4
    · rw [Zar _ (by rw [List.length_set]; omega), Zal _ (by decide)]; exact q5
    · rw [Zar _ (by rw [List.length_set]; omega), Zal _ (by decide)]; exact q6
    · rw [Zar _ (by rw [List.length_set]; omega), Zas _ h4l, List.length_append, q2]; rfl
    · rw [Zar _ (by rw [List.length_set]; omega), Zal _ (by decide)]; exact q8
    · intro i gi hi
      by_cases hij : i < gs.length
      · rw [List.getElem?_append_left hij] at hi
        rw [Zar _ (by rw [List.length_set]; omega), Zal _ (by omega)]; exact q9 i gi hi
      · have hi' : i = j := by
          have := (List.getElem?_eq_some_iff.mp hi).1
          simp at this; omega
        subst hi'
        rw [List.getElem?_append_right (by omega), q2] at hi
        simp at hi
        subst hi
        have key : ∀ Z : Heap, Z.length = H.length → getH (Z ++ [some (g, O.cells (List.flatMap fE (List.map (movM M) (rows.getD s []))) Kd.fixed)]) (6 + i) g = some (.cells (List.flatMap fE (List.map (movM M) (rows.getD s []))) .fixed) := fun Z hZ => by
          rw [← q1, ← hZ, Zbm]; simp [getH]
        have := key _ (List.length_set (as := H) (i := 4) (a := some (g4, .cells (refL ins 6 (gs ++ [g]) ++ List.replicate (l.length - (i + 1)) V.nils) .fixed)))
        simp only [hs, Int.toNat_natCast]
        exact this
  · have hj : j = l.length := by omega
    subst hj
    simp (disch := first | exact dJ | fail) only [go_sem, Nat.reduceAdd, Nat.reduceMul, Nat.reduceSub, Nat.reduceLeDiff, Nat.reduceLT, Nat.reduceEqDiff, h2, h4, h8, h9, h36, h37, h38, he, w1]
    exact ⟨_, _, _, _, rfl, .inr ⟨by simp, rfl, ⟨gs, hI⟩, gQ he, gQ h4, gQ h9⟩⟩
def Znw (rows : List (List (Int × Int))) (l : List Int) : List (List (Int × Int)) := l.map fun s => (rows.getD s.toNat []).map (movM (atM l l.length))
theorem f32 (hm : OKM ins outs rows) {l : List Int} {kl : SC} (hl : l.length ≤ 1000) (hne : l ≠ []) (hr : ∀ x ∈ l, 0 ≤ x ∧ x < rows.length) : Zaq AP (X AP) false 32 [encM k k' ins outs rows, ints l kl] = some (encM (.c (some l.length)) (.c (some ins)) ins outs (Znw rows l), none) := by
  obtain ⟨e, he, hg, hx⟩ := Zat AP32 (args := [encM k k' ins outs rows, ints l kl]) rfl (by decide)
  have he : e.length = 74 := he
  have h0 : getE e 0 = encM k k' ins outs rows := hg 0 (by simp only [List.length_cons]; omega)
  have h1 : getE e 1 = ints l kl := hg 1 (by simp only [List.length_cons]; omega)
  rw [hx]; clear hx hg; unfold c32
  have hmE : mE [(-1, -1)] = [(V.int .i64 (-1), V.int .i64 (-1))] := rfl
  simp (disch := first | exact dJ | fail) only [go_sem, Nat.reduceAdd, Nat.reduceMul, Nat.reduceSub, Nat.reduceLeDiff, Nat.reduceLT, Nat.reduceEqDiff, h0, h1, he, Zan, Zaf, Zai, List.getD_cons_zero, Zam, Zao, Zap, Zah, Zaj, Zae, Zad, Zag, o_mkm, Ycn, Zvs, putM]
  generalize hE : putE _ _ _ = E
  have hEl : E.length = 74 := by subst hE; simp (disch := first | exact dG | fail) only [Zab, Zaa, Zac, he]
  have p1 : getE E 1 = ints l kl := by subst hE; exact gQ h1
  have p2 : getE E 2 = .ptr 0 0 0 := by subst hE; exact gQ he
  have p4 : getE E 4 = .ptr 1 1 0 := by subst hE; exact gQ he
  have p5 : getE E 5 = .ptr 3 3 0 := by subst hE; exact gQ he
  have p16 : getE E 16 = ints l kl := by subst hE; exact gQ h1
  have p17 : getE E 17 = .int .i64 l.length := by subst hE; exact gQ he
  have p18 : getE E 18 = .int .i64 (0 : Nat) := by subst hE; exact gZ he
  obtain ⟨ex, e1, H1, g1, hx, rfl, rfl, he1, q1, q2, q4, q5⟩ := L32_1 (kl := kl) hl (x0 := some (0, oM k k' ins outs rows)) (x1 := some (1, .cells [.int .i64 0, .int .i64 0, .nils] .fixed)) (g := 4) ⟨hEl, p1, p2, p4, p5, p16, p17, p18⟩
  rw [hx]
  clear hx hE
  have hrep : (List.replicate l.length [V.nils]).flatten = List.replicate l.length V.nils := by simp
  simp (disch := first | exact dK | fail) only [go_sem, Nat.reduceAdd, Nat.reduceMul, Nat.reduceSub, Nat.reduceLeDiff, Nat.reduceLT, Nat.reduceEqDiff, q1, q2, q4, q5, he1, Zan, Zaf, Zai, List.getD_cons_zero, Zam, Zao, Zap, Zah, Zaj, Zae, Zad, Zag, Zbc, hrep]
  generalize hE : putE _ _ _ = E
  have hEl : E.length = 74 := by subst hE; simp (disch := first | exact dG | fail) only [Zab, Zaa, Zac, he1]
  have r2 : getE E 2 = .ptr 0 0 0 := by subst hE; exact gQ q2
  have r4 : getE E 4 = .ptr 1 1 0 := by subst hE; exact gQ q4
  have r8 : getE E 8 = .fn 63 [] [.ptr 3 3 0] := by subst hE; exact gQ he1
  have r9 : getE E 9 = .ptr 5 (g1 + 1) 0 := by subst hE; exact gQ he1
  have r36 : getE E 36 = ints l kl := by subst hE; exact gQ q1
  have r37 : getE E 37 = .int .i64 l.length := by subst hE; exact gQ he1
  have r38 : getE E 38 = .int .i64 (0 : Nat) := by subst hE; exact gZ he1
  clear hE
  obtain ⟨ex, e2, H2, g2, hx, rfl, ⟨gs, hI⟩, he2, s4, s9⟩ := L32_2 (k := k) (k' := k') hm hl hr (M := atM l l.length) (g4 := g1) (g5 := g1 + 1) (kl := kl)
    (H := [some (0, oM k k' ins outs rows), some (1, .cells [.int .i64 0, .int .i64 0, .nils] .fixed), some (2, .map (mE (atM l l.length))), some (3, .cells [.mp 2 2] .fixed), some (g1, .cells (List.replicate l.length .nils) .fixed), some (g1 + 1, .cells [.int .i64 ins, .int .i64 outs, .sl 4 g1 1 0 l.length (some l.length)] .fixed)])
    ⟨rfl, rfl, rfl, rfl, rfl, rfl, by simp [getH, refL], by simp [getH], by intro i g h; simp at h⟩ (g := g1 + 2) ⟨hEl, r2, r4, r8, r9, r36, r37, r38⟩
  rw [hx]
  clear hx
  obtain ⟨z1, z2, z3, z4, z5, z6, z7, z8, z9⟩ := hI
  have z1' : 1 < H2.length := by omega
  simp (disch := first | exact dJ | fail) only [go_sem, Nat.reduceAdd, Nat.reduceMul, Nat.reduceSub, Nat.reduceLeDiff, Nat.reduceLT, Nat.reduceEqDiff, s4, s9, he2, z8, z4]
  rw [z2, Nat.sub_self, List.replicate_zero, List.append_nil] at z7
  refine Zvr (b := 6) (gs := gs) (Zbe ..) (Zbe ..) (by simp [Znw]) (by simp [Znw]; exact hne) (by simp [Znw]; exact z2) (by decide) ?_ ?_ ?_
  · rw [Zal _ (by decide)]; exact z7
  · intro j g hj
    have hjl := (List.getElem?_eq_some_iff.mp hj).1
    rw [Zal _ (by omega), z9 j g hj]
    simp [Znw, List.getD_eq_getElem?_getD, show j < l.length by omega]
  · intro r hrr
    obtain ⟨s, hs, rfl⟩ := List.mem_map.mp hrr
    have := hr s hs
    rw [List.length_map]
    exact hm.len s.toNat (by omega)
end
end Go.AM
