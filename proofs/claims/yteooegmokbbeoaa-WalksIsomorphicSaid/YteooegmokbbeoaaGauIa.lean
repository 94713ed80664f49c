/- Maps from numbers to numbers; a closure that looks into one. -/
import Derived.Test.YteooegmokbbeoaaGauGa
set_option linter.unusedVariables false
set_option linter.unusedSimpArgs false
namespace Go.AM
theorem Zqu {H K : Heap} {i : Nat} (x : Option (Nat × O)) (h : i < H.length) : (H ++ K).set i x = H.set i x ++ K := by
  rw [List.set_append_left _ _ h]
def mE (l : List (Int × Int)) : List (V × V) := l.map fun p => (.int .i64 p.1, .int .i64 p.2)
def mK (l : List (Int × Int)) : List V := l.map fun p => .int .i64 p.1
def mV (l : List (Int × Int)) : List V := l.map fun p => .int .i64 p.2
theorem mE_1 (l : List (Int × Int)) : (mE l).map (·.1) = mK l := by simp [mE, mK]
theorem mE_2 (l : List (Int × Int)) : (mE l).map (·.2) = mV l := by simp [mE, mV]
theorem Ycs (l : List (Int × Int)) : (mK l).zip (mV l) = mE l := by
  induction l with
  | nil => rfl
  | cons a t ih => simp only [mK, mV, mE, List.map_cons, List.zip_cons_cons] at ih ⊢; rw [ih]
theorem Ybs (l : List (Int × Int)) : Zap.pureL (mK l) = true := by
  induction l with
  | nil => rfl
  | cons a t ih => simp only [mK, List.map_cons, Zbg, Zce, Bool.true_and] at ih ⊢; exact ih
theorem Ybq (l : List (Int × Int)) : Zap.pureL (mV l) = true := by
  induction l with
  | nil => rfl
  | cons a t ih => simp only [mV, List.map_cons, Zbg, Zce, Bool.true_and] at ih ⊢; exact ih
def ixM : List (Int × Int) → Int → Nat → Option Nat
  | [], _, _ => none
  | (a, _) :: l, k, i => if k = a then some i else ixM l k (i + 1)
def Zfx : List (Int × Int) → Int → Option Int
  | [], _ => none
  | (a, b) :: l, k => if k = a then some b else Zfx l k
def putM : List (Int × Int) → Int → Int → List (Int × Int)
  | [], k, v => [(k, v)]
  | (a, b) :: l, k, v => if k = a then (k, v) :: l else (a, b) :: putM l k v
theorem Zjk (k : Int) : ∀ (l : List (Int × Int)) (i : Nat), Zfw false [.i] (.int .i64 k) (mE l) i = some (ixM l k i)
  | [], i => rfl
  | (a, b) :: l, i => by
    have ih := Zjk k l (i + 1)
    unfold mE at ih ⊢
    simp only [List.map_cons, Zfw, eqK, eqS, if_true, ixM]
    by_cases h : k = a
    · simp [h]
    · have : (k == a) = false := by simpa using h
      rw [this, if_neg h]; exact ih
theorem Yai {k : Int} : ∀ {l : List (Int × Int)} {i j : Nat}, ixM l k i = some j → i ≤ j
  | [], i, j, h => by cases h
  | (a, b) :: l, i, j, h => by
    simp only [ixM] at h
    split at h
    · cases h; exact Nat.le_refl _
    · have := Yai h; omega
theorem Zjg {k : Int} : ∀ {l : List (Int × Int)} {i : Nat}, ixM l k i = none → Zfx l k = none ∧ ∀ v, putM l k v = l ++ [(k, v)]
  | [], i, h => ⟨rfl, fun v => rfl⟩
  | (a, b) :: l, i, h => by
    simp only [ixM] at h
    split at h
    · cases h
    · rename_i hk
      have := Zjg h
      exact ⟨by simp only [Zfx, if_neg hk]; exact this.1, fun v => by simp only [putM, if_neg hk, this.2 v]; rfl⟩
theorem Zjl {k : Int} : ∀ {l : List (Int × Int)} {i j : Nat}, ixM l k i = some j → (∃ v, (mE l)[j - i]? = some (.int .i64 k, .int .i64 v) ∧ Zfx l k = some v) ∧ ∀ v, mE (putM l k v) = (mE l).set (j - i) (.int .i64 k, .int .i64 v)
  | [], i, j, h => by cases h
  | (a, b) :: l, i, j, h => by
    simp only [ixM] at h
    split at h
    · rename_i hk
      cases h; subst hk
      refine ⟨⟨b, by simp [mE], by simp [Zfx]⟩, fun v => by simp [mE, putM]⟩
    · rename_i hk
      obtain ⟨⟨v, h1, h2⟩, h3⟩ := Zjl h
      have hge := Yai h
      have e : j - i = (j - (i + 1)) + 1 := by omega
      refine ⟨⟨v, ?_, by simp only [Zfx, if_neg hk]; exact h2⟩, fun v => ?_⟩
      · rw [e]; simpa [mE] using h1
      · have := h3 v
        rw [e]; simp only [putM, if_neg hk]; simpa [mE] using this
section
variable {P : Zcb} {own : List (Nat × Nat)} {id g : Nat} {H : Heap}
theorem o_mup (a b c : Opd) (i gi : Nat) (k v : Int) (l : List (Int × Int)) (hg : getH H i gi = some (.map (mE l))) : opR P own id g (.mup false [.i] a b c) [.mp i gi, .int .i64 k, .int .i64 v] H = some (.junk, H.set i (some (gi, .map (mE (putM l k v)))), [i], [i]) := by
  have hi := Zbw hg
  have hw : Zbz (.int .i64 v) = true ∧ Zkw false [.i] (.int .i64 k) = true := ⟨rfl, rfl⟩
  unfold opR Zbc
  simp only [hw, and_self, if_true, runP, hg, Zjk]
  cases h : ixM l k 0 with
  | none =>
    have := (Zjg h).2 v
    simp only [runP, hi, if_true, this]
    simp [mE]
  | some j =>
    have := (Zjl h).2 v
    simp only [Nat.sub_zero] at this
    simp only [runP, hi, if_true, this]
def mupR (i gi : Nat) (k v : Int) (H : Heap) : Option O → OpR
  | some (.map es) => match Zfw false [.i] (.int .i64 k) es 0 with
    | some (some j) => some (.junk, H.set i (some (gi, .map (es.set j (.int .i64 k, .int .i64 v)))), [i], [i])
    | some none => some (.junk, H.set i (some (gi, .map (es ++ [(.int .i64 k, .int .i64 v)]))), [i], [i])
    | none => none
  | _ => none
theorem Yad (a b c : Opd) (i gi : Nat) (k v : Int) : opR P own id g (.mup false [.i] a b c) [.mp i gi, .int .i64 k, .int .i64 v] H = mupR i gi k v H (getH H i gi) := by
  have hw : Zbz (.int .i64 v) = true ∧ Zkw false [.i] (.int .i64 k) = true := ⟨rfl, rfl⟩
  unfold opR Zbc
  simp only [hw, and_self, if_true, runP]
  cases hg : getH H i gi with
  | none => rfl
  | some o =>
    have hi := Zbw hg
    cases o with
    | map es =>
      simp only [mupR]
      cases Zfw false [.i] (.int .i64 k) es 0 with
      | none => rfl
      | some q => cases q <;> simp only [runP, hi, if_true]
    | cells cs kd => rfl
    | loop => rfl
theorem Zxi (i gi : Nat) (k v : Int) (l : List (Int × Int)) : mupR i gi k v H (some (.map (mE l))) = some (.junk, H.set i (some (gi, .map (mE (putM l k v)))), [i], [i]) := by
  simp only [mupR, Zjk]
  cases h : ixM l k 0 with
  | none =>
    have := (Zjg h).2 v
    simp only [this]
    simp [mE]
  | some j =>
    have := (Zjl h).2 v
    simp only [Nat.sub_zero] at this
    simp only [this]
theorem o_mkm (hi : id < H.length) : opR P own id g (.mkm none) [] H = some (.mp id g, H.set id (some (g, .map (mE []))), [], [id]) := by
  show runP (.wr id _ (.ret _)) H = _
  simp only [runP, hi, if_true]; rfl
theorem o_lkpF (x y : Opd) (k : Int) (l : List (Int × Int)) : opR P own id g (.lkp false [.i] (.int .i64 0) false x y) [.mpf (mK l) (mV l), .int .i64 k] H = some (.int .i64 ((Zfx l k).getD 0), H, [], []) := by
  have hw : Zkw false [.i] (.int .i64 k) = true := rfl
  unfold opR Zbc
  simp only [hw, if_true, Ycs, Zjk]
  cases h : ixM l k 0 with
  | none => simp only [runP, (Zjg h).1]; rfl
  | some j =>
    obtain ⟨v, h1, h2⟩ := (Zjl h).1
    simp only [Nat.sub_zero] at h1
    simp only [h1, runP, h2]; rfl
/-- A call of a closure that has a pointer to a map. -/
theorem Yci (x : Opd) (ys : List Opd) (f : Nat) (v : V) (i gi mi mg : Nat) (l : List (Int × Int)) (kd : Kd) (hk : Zcs kd = true) (hv : Zap v = true) (hg : getH H i gi = some (.cells [.mp mi mg] kd)) (hm : getH H mi mg = some (.map (mE l))) :
    opR P own id g (.call .iso x ys) [.fn f [] [.ptr i gi 0], v] H = isoF [i, mi] H (Zaq P (X P) false f [v, .pf [.mpf (mK l) (mV l)] 0]) := by
  show runP (Zbi false 9 ([] ++ [v] ++ [.ptr i gi 0]) fun args' => match Zaq P (X P) false f args' with
      | some (v', none) => if Zap.pureL ([] ++ [v] ++ [.ptr i gi 0]) || Zdb v' then .ret v' else .no
      | _ => .no) H = _
  have hn : Zap.pureL [v, .ptr i gi 0] = false := by simp [Zbg, hv, Zap]
  simp only [List.nil_append, List.cons_append, Zbi, hn, Bool.false_eq_true, if_false, Zcm, Zek _ _ _ hv]
  rw [Zba]
  simp only [Zap, Bool.false_eq_true, if_false, runP, hg]
  cases kd <;> simp only [Zcs, Bool.false_eq_true] at hk <;> simp only [Zcm] <;> (
    rw [Zba]
    simp only [Zap, Bool.false_eq_true, if_false, runP, hm, mE_1, mE_2, Ybs, if_true, Zin _ _ _ (Ybq l)]
    cases Zaq P (X P) false f [v, .pf [.mpf (mK l) (mV l)] 0] with
    | none => rfl
    | some q =>
      obtain ⟨v', o⟩ := q
      cases o with
      | none => simp only [isoF, Bool.false_or]; by_cases hf : Zdb v' = true <;> simp [hf, runP]
      | some o => rfl)
end
theorem f63 (a b : Int) (l : List (Int × Int)) : Zaq AP (X AP) false 63 [.agg [.int .i64 a, .int .i64 b], .pf [.mpf (mK l) (mV l)] 0] = some (.agg [.int .i64 ((Zfx l a).getD 0), .int .i64 b], none) := by
  obtain ⟨e, he, hg, hx⟩ := Zaz AP63 (args := [.agg [.int .i64 a, .int .i64 b], .pf [.mpf (mK l) (mV l)] 0]) rfl (by decide)
  have he : e.length = 11 := he
  have h0 : getE e 0 = .agg [.int .i64 a, .int .i64 b] := hg 0 (by simp only [List.length_cons]; omega)
  have h1 : getE e 1 = .pf [.mpf (mK l) (mV l)] 0 := hg 1 (by simp only [List.length_cons]; omega)
  rw [hx]; clear hx hg; unfold c63
  simp (disch := first | assumption | decide | omega | (refine id ?_; simp only [go_sem, Zaf, Zag, Zah, Zae, Zad, Nat.add_assoc, List.length_map, List.length_range, Nat.reduceAdd, *]; first | done | decide | omega)) only [go_sem, Nat.reduceAdd, Nat.reduceMul, Nat.reduceSub, Nat.reduceLeDiff, Nat.reduceLT, Nat.reduceEqDiff, h0, h1, he, Zat, Zan, Zam, List.getD_cons_zero, Zar, Zau, Zav, Zal, Zao, Zaj, Zai, Zak, o_lkpF]
end Go.AM

set_option linter.unusedVariables false
set_option linter.unusedSimpArgs false
namespace Go.AM
/-- References to rows that lie side by side. -/
def refL (m : Nat) : Nat → List Nat → List V
  | _, [] => []
  | b, g :: gs => .sl b g 2 0 m (some m) :: refL m (b + 1) gs
theorem Zie (m : Nat) : ∀ (b : Nat) (gs : List Nat), (refL m b gs).length = gs.length
  | _, [] => rfl
  | b, g :: gs => by simp only [refL, List.length_cons, Zie m (b + 1) gs]
theorem Zny (m : Nat) : ∀ (b : Nat) (gs : List Nat) (g : Nat), refL m b (gs ++ [g]) = refL m b gs ++ [.sl (b + gs.length) g 2 0 m (some m)]
  | b, [], g => rfl
  | b, x :: gs, g => by
    simp only [List.cons_append, refL, Zny m (b + 1) gs g, List.length_cons]
    rw [show b + 1 + gs.length = b + (gs.length + 1) by omega]
theorem Zsk (m n b g : Nat) (gs : List Nat) (h : gs.length < n) : Zbh (refL m b gs ++ List.replicate (n - gs.length) .nils) gs.length [.sl (b + gs.length) g 2 0 m (some m)] = refL m b (gs ++ [g]) ++ List.replicate (n - (gs.length + 1)) .nils := by
  rw [Zny]
  unfold Zbh
  have hl := Zie m b gs
  rw [List.take_append_of_le_length (by omega), List.take_of_length_le (by omega)]
  rw [List.drop_append, List.drop_eq_nil_of_le (by simp [hl])]
  simp [hl, List.append_assoc]
  omega
theorem ref_ld (m n b : Nat) (gs : List Nat) (g j : Nat) (h : gs[j]? = some g) : ldC 1 false j (refL m b gs ++ List.replicate (n - gs.length) .nils) = some (.sl (b + j) g 2 0 m (some m)) := by
  have hl := Zie m b gs
  obtain ⟨hj, _⟩ := List.getElem?_eq_some_iff.mp h
  have key : ∀ (b : Nat) (gs : List Nat) (j : Nat), gs[j]? = some g → (refL m b gs)[j]? = some (.sl (b + j) g 2 0 m (some m)) := by
    intro b gs
    induction gs generalizing b with
    | nil => intro j h; simp at h
    | cons x gs ih =>
      intro j h
      cases j with
      | zero => simp at h; subst h; simp [refL]
      | succ j => simp at h; have := ih (b + 1) j h; simp only [refL, List.getElem?_cons_succ, this]; rw [show b + 1 + j = b + (j + 1) by omega]
  have k1 := key b gs j h
  unfold ldC
  rw [if_pos (by simp [hl]; omega)]
  have : cut (refL m b gs ++ List.replicate (n - gs.length) .nils) j 1 = [.sl (b + j) g 2 0 m (some m)] := by
    unfold cut
    rw [List.drop_append_of_le_length (by omega), List.take_append_of_le_length (by simp [hl]; omega)]
    have h2 : j < (refL m b gs).length := by omega
    rw [List.drop_eq_getElem_cons h2]
    simp only [List.take_succ_cons, List.take_zero, List.cons.injEq, and_true]
    rw [List.getElem?_eq_getElem h2] at k1
    exact Option.some.inj k1
  rw [this]; rfl
/-- Rows that are frozen one after the other. -/
theorem Zoi {m d : Nat} : ∀ (gs : List Nat) (rs : List (List (Int × Int))) (b : Nat) (H : Heap) (k : List V → Plan), gs.length = rs.length → (∀ j g, gs[j]? = some g → getH H (b + j) g = some (.cells ((rs.getD j []).flatMap fE) .fixed)) → (∀ r ∈ rs, r.length = m) →
    ∃ H', (runP (Zcm (Zba true (d + 1)) (refL m b gs) k) H).map (·.1) = (runP (k (rs.flatMap (fR (.c (some m))))) H').map (·.1) ∧ (∀ i g, i < b → getH H' i g = getH H i g) ∧ H'.length = H.length
  | [], rs, b, H, k, hl, hg, hm => by
    cases rs with
    | nil => exact ⟨H, rfl, fun _ _ _ => rfl, rfl⟩
    | cons a t => simp at hl
  | g :: gs, rs, b, H, k, hl, hg, hm => by
    cases rs with
    | nil => simp at hl
    | cons r rs =>
      have h0 := hg 0 g rfl
      simp only [Nat.add_zero, List.getD_cons_zero] at h0
      have hr := hm r List.mem_cons_self
      obtain ⟨H', h1, h2, h3⟩ := Zoi (d := d) gs rs (b + 1) (H.set b (some (g, .cells (r.flatMap fE) .froz))) (fun vs => k (enS fE 2 r (.c (some m)) :: vs)) (by simpa using hl)
        (fun j g' hj => by rw [Zas _ (by omega)]; have := hg (j + 1) g' (by simpa using hj); rw [show b + 1 + j = b + (j + 1) by omega]; simpa using this) (fun r hr => hm r (List.mem_cons_of_mem _ hr))
      refine ⟨H', ?_, fun i g' hi => by rw [h2 i g' (by omega), Zas _ (by omega)], by rw [h3, List.length_set]⟩
      simp only [refL, Zcm]
      rw [Zhd (f := fE) d b g (some m) r .fixed _ rfl hr.symm h0]
      rw [Option.map_map]
      simp only [List.flatMap_cons]
      rw [show fR (.c (some m)) r ++ rs.flatMap (fR (.c (some m))) = enS fE 2 r (.c (some m)) :: rs.flatMap (fR (.c (some m))) from rfl, ← h1]
      rfl
theorem Zun {H : Heap} {i gi n m b : Nat} {a1 a2 : V} {gs : List Nat} {rs : List (List (Int × Int))} {c : Option Nat} (h1 : Zap a1 = true) (h2 : Zap a2 = true) (hn : n = rs.length) (hne : rs ≠ []) (hl : gs.length = rs.length) (hib : i < b) (hg : getH H i gi = some (.cells (refL m b gs) .fixed))
    (hr : ∀ j g, gs[j]? = some g → getH H (b + j) g = some (.cells ((rs.getD j []).flatMap fE) .fixed)) (hm : ∀ r ∈ rs, r.length = m) : frzO H (some (.agg [a1, a2, .sl i gi 1 0 n c])) = some (.agg [a1, a2, enS (fR (.c (some m))) 1 rs (.c c)], none) := by
  have hi := Zbw hg
  have hrl := Zie m b gs
  unfold frzO Zdm
  simp only
  have hnp : Zap.pureL (refL m b gs) = false := by
    cases gs with
    | nil => simp at hl; exact absurd (List.eq_nil_of_length_eq_zero hl.symm) hne
    | cons g gs => simp [refL, Zbg, Zap]
  have e1 : (runP (Zba true 9 (.agg [a1, a2, .sl i gi 1 0 n c]) .ret) H).map (·.1) = some (.agg [a1, a2, enS (fR (.c (some m))) 1 rs (.c c)]) := by
    rw [Zba]
    simp only [Zap, Zap.pureL, h1, h2, Bool.true_and, Bool.and_true, Bool.false_eq_true, if_false, Zcm, Zfk _ _ _ h1, Zfk _ _ _ h2]
    rw [Zba]
    have hle : 0 + n * 1 ≤ (refL m b gs).length := by omega
    simp only [Zap, Bool.false_eq_true, if_false, runP, hg, hle, if_true, hnp]
    obtain ⟨H', q1, q2, q3⟩ := Zoi (d := 6) gs rs b H (fun cs' => frzK true i gi 1 0 n c .fixed (fun v => .ret (.agg [a1, a2, v])) cs') hl hr hm
    have q4 : runP (frzK true i gi 1 0 n c .fixed (fun v => .ret (.agg [a1, a2, v])) (rs.flatMap (fR (.c (some m))))) H' = some (.agg [a1, a2, .arr (cut (rs.flatMap (fR (.c (some m)))) 0 (n * 1)) 1 n c], H'.set i (some (gi, .cells (rs.flatMap (fR (.c (some m)))) .froz)), [], [i]) := by
      unfold frzK
      simp only [if_true, runP, show i < H'.length by omega]
    rw [q4] at q1
    have hc : cut (rs.flatMap (fR (.c (some m)))) 0 (n * 1) = rs.flatMap (fR (.c (some m))) := by subst hn; exact Zbt (f := fR (.c (some m))) (sz := 1) (fun _ => rfl) rs
    rw [hc] at q1
    simp only [Option.map_some] at q1
    cases hx : runP (Zcm (Zba true 7) (refL m b gs) (fun cs' => frzK true i gi 1 0 n c .fixed (fun v => .ret (.agg [a1, a2, v])) cs')) H with
    | none => rw [hx] at q1; cases q1
    | some q =>
      rw [hx] at q1
      simp only [Option.map_some, Option.some.injEq] at q1 ⊢
      rw [q1]
      subst hn
      rfl
  cases hx : runP (Zba true 9 (.agg [a1, a2, .sl i gi 1 0 n c]) .ret) H with
  | none => rw [hx] at e1; cases e1
  | some q =>
    rw [hx] at e1
    simp only [Option.map_some, Option.some.injEq] at e1
    obtain ⟨v', r⟩ := q
    simp only at e1
    rw [e1]
end Go.AM

set_option linter.unusedVariables false
set_option linter.unusedSimpArgs false
namespace Go.AM
section
variable {k k' : SC} {ins outs : Nat} {rows : List (List (Int × Int))}
/-- Where each state goes. -/
def atM (l : List Int) : Nat → List (Int × Int)
  | 0 => [(-1, -1)]
  | j + 1 => putM (atM l j) (l.getD j 0) j
theorem L32_1 {l : List Int} {kl : SC} (hl : l.length ≤ 1000) {x0 x1 : Option (Nat × O)} {e : List V} {g : Nat} (h : e.length = 74 ∧ getE e 1 = ints l kl ∧ getE e 2 = .ptr 0 0 0 ∧ getE e 4 = .ptr 1 1 0 ∧ getE e 5 = .ptr 3 3 0 ∧ getE e 16 = ints l kl ∧ getE e 17 = .int .i64 l.length ∧ getE e 18 = .int .i64 (0 : Nat)) :
    ∃ ex e' H' g', X AP (.inl (some 4) Ydr) ⟨e, [x0, x1, some (2, .map (mE [(-1, -1)])), some (3, .cells [.mp 2 2] .fixed)], g, none⟩ = some (ex, ⟨e', H', g', none⟩) ∧ ex = .exit 0 ∧ H' = [x0, x1, some (2, .map (mE (atM l l.length))), some (3, .cells [.mp 2 2] .fixed)] ∧ e'.length = 74 ∧ getE e' 1 = ints l kl ∧ getE e' 2 = .ptr 0 0 0 ∧ getE e' 4 = .ptr 1 1 0 ∧ getE e' 5 = .ptr 3 3 0 := by
  refine Zcj (fun k1 e H g => ∃ (i : Nat), k1 + i = l.length ∧ (e.length = 74 ∧ getE e 1 = ints l kl ∧ getE e 2 = .ptr 0 0 0 ∧ getE e 4 = .ptr 1 1 0 ∧ getE e 5 = .ptr 3 3 0 ∧ getE e 16 = ints l kl ∧ getE e 17 = .int .i64 l.length ∧ getE e 18 = .int .i64 i) ∧ H = [x0, x1, some (2, .map (mE (atM l i))), some (3, .cells [.mp 2 2] .fixed)]) _ ?_ l.length e _ g ⟨0, by omega, h, rfl⟩
  rintro k1 e H g ⟨i, hk, ⟨he, h1, h2, h4, h5, h16, h17, h18⟩, rfl⟩
  unfold Ydr
  have w1 : IntKind.i64.wrap ((i : Int) + 1) = ((i + 1 : Nat) : Int) := by rw [Zbf (by omega) (by omega)]; rfl
  by_cases hlt : i < l.length
  · have hs : atM l (i + 1) = putM (atM l i) (l.getD i 0) i := rfl
    simp (disch := first | assumption | decide | omega | (refine id ?_; simp only [go_sem, Zaf, Zag, Zah, Zae, Zad, Nat.add_assoc, List.length_map, List.length_range, Nat.reduceAdd, *]; first | done | decide | omega)) only [go_sem, Nat.reduceAdd, Nat.reduceMul, Nat.reduceSub, Nat.reduceLeDiff, Nat.reduceLT, Nat.reduceEqDiff, h1, h2, h4, h5, h16, h17, h18, he, w1, Zat, Zan, Zam, List.getD_cons_zero, Zar, Zau, Zav, Zal, Zao, Zaj, Zai, Zak, Yad, Zxi]
    exact ⟨_, _, _, _, rfl, .inl ⟨rfl, k1 - 1, by omega, i + 1, by omega, ⟨(by simp (disch := first | decide | (simp only [Zaa, *]; omega)) only [Zac, Zab, Zaa, he] <;> rfl), (by simp (disch := first | decide | (simp only [Zaa, *]; omega)) only [Zac, Zab, Zaa, h1] <;> rfl), (by simp (disch := first | decide | (simp only [Zaa, *]; omega)) only [Zac, Zab, Zaa, h2] <;> rfl), (by simp (disch := first | decide | (simp only [Zaa, *]; omega)) only [Zac, Zab, Zaa, h4] <;> rfl), (by simp (disch := first | decide | (simp only [Zaa, *]; omega)) only [Zac, Zab, Zaa, h5] <;> rfl), (by simp (disch := first | decide | (simp only [Zaa, *]; omega)) only [Zac, Zab, Zaa, h16] <;> rfl), (by simp (disch := first | decide | (simp only [Zaa, *]; omega)) only [Zac, Zab, Zaa, h17] <;> rfl), (by simp (disch := first | decide | (simp only [Zaa, *]; omega)) only [Zac, Zab, Zaa, he] <;> rfl)⟩, by rw [hs] <;> rfl⟩⟩
  · have hi : i = l.length := by omega
    subst hi
    simp (disch := first | assumption | decide | omega | (refine id ?_; simp only [go_sem, Zaf, Zag, Zah, Zae, Zad, Nat.add_assoc, List.length_map, List.length_range, Nat.reduceAdd, *]; first | done | decide | omega)) only [go_sem, Nat.reduceAdd, Nat.reduceMul, Nat.reduceSub, Nat.reduceLeDiff, Nat.reduceLT, Nat.reduceEqDiff, h1, h2, h4, h5, h16, h17, h18, he, w1, Zat, Zan, Zam, List.getD_cons_zero, Zar, Zau, Zav, Zal, Zao, Zaj, Zai, Zak]
    exact ⟨_, _, _, _, rfl, .inr ⟨by simp, rfl, rfl, (by simp (disch := first | decide | (simp only [Zaa, *]; omega)) only [Zac, Zab, Zaa, he] <;> rfl), (by simp (disch := first | decide | (simp only [Zaa, *]; omega)) only [Zac, Zab, Zaa, h1] <;> rfl), (by simp (disch := first | decide | (simp only [Zaa, *]; omega)) only [Zac, Zab, Zaa, h2] <;> rfl), (by simp (disch := first | decide | (simp only [Zaa, *]; omega)) only [Zac, Zab, Zaa, h4] <;> rfl), (by simp (disch := first | decide | (simp only [Zaa, *]; omega)) only [Zac, Zab, Zaa, h5] <;> rfl)⟩⟩
def movM (M : List (Int × Int)) (x : Int × Int) : Int × Int := ((Zfx M x.1).getD 0, x.2)
structure I32 (k k' : SC) (ins outs : Nat) (rows : List (List (Int × Int))) (M : List (Int × Int)) (g4 g5 n j : Nat) (gs : List Nat) (R : Nat → List (Int × Int)) (H : Heap) : Prop where
  len : H.length = 6 + j
  gl : gs.length = j
  a0 : getH H 0 0 = some (oM k k' ins outs rows)
  a1 : getH H 1 1 = some (.cells [.int .i64 0, .int .i64 0, .nils] .fixed)
  a2 : getH H 2 2 = some (.map (mE M))
  a3 : getH H 3 3 = some (.cells [.mp 2 2] .fixed)
  a4 : getH H 4 g4 = some (.cells (refL ins 6 gs ++ List.replicate (n - gs.length) .nils) .fixed)
  a5 : getH H 5 g5 = some (.cells [.int .i64 ins, .int .i64 outs, .sl 4 g4 1 0 n (some n)] .fixed)
  ar : ∀ i g, gs[i]? = some g → getH H (6 + i) g = some (.cells ((R i).flatMap fE) .fixed)
theorem Ycf {l : List (Int × Int)} {i : Nat} {a b : Int} (h : i < l.length) : Zbh (l.flatMap fE) (i * 2) [.int .i64 a, .int .i64 b] = (l.set i (a, b)).flatMap fE := Zec (f := fE) l i (a, b) h
theorem Zve (l : List (Int × Int)) : (l.flatMap fE).length = l.length * 2 := Zbq (f := fE) l
/-- A row of which the first places are filled. -/
def Zfa (f : Int × Int → Int × Int) (row : List (Int × Int)) (i : Nat) : List (Int × Int) := (row.take i).map f ++ List.replicate (row.length - i) (0, 0)
theorem Zwn (f : Int × Int → Int × Int) (row : List (Int × Int)) (i : Nat) (h : i ≤ row.length) : (Zfa f row i).length = row.length := by simp [Zfa]; omega
theorem Zwm (f : Int × Int → Int × Int) (row : List (Int × Int)) (i : Nat) (h : i < row.length) : (Zfa f row i).set i (f (row.getD i (0, 0))) = Zfa f row (i + 1) := by
  unfold Zfa
  have hl : ((row.take i).map f).length = i := by simp; omega
  rw [List.set_append_right _ _ (by omega), hl, Nat.sub_self]
  have h2 : (row.take (i + 1)).map f = (row.take i).map f ++ [f (row.getD i (0, 0))] := by
    rw [List.take_add_one, List.map_append, List.getD_eq_getElem?_getD, List.getElem?_eq_getElem h]; rfl
  rw [show row.length - i = (row.length - (i + 1)) + 1 by omega, List.replicate_succ, List.set_cons_zero, h2, List.append_assoc]
  rfl
theorem Ztm (f : Int × Int → Int × Int) (row : List (Int × Int)) : Zfa f row row.length = row.map f := by simp [Zfa]
theorem L32_3 {M : List (Int × Int)} {g4 g5 n j : Nat} {H : Heap} (hi2 : ins ≤ 16) {gr : Nat} {row : List (Int × Int)} {kr : SC} (hrow : row.length = ins) (hb : H.length = 6 + j) (hj : j < n) (b2 : getH H 2 2 = some (.map (mE M))) (b3 : getH H 3 3 = some (.cells [.mp 2 2] .fixed))
    {cs : List V} (b4 : getH H 4 g4 = some (.cells cs .fixed)) (b4r : ldC 1 false (j * 1) cs = some (.sl (6 + j) gr 2 0 ins (some ins))) (b5 : getH H 5 g5 = some (.cells [.int .i64 ins, .int .i64 outs, .sl 4 g4 1 0 n (some n)] .fixed))
    {v2 v4 v36 v37 : V} {e : List V} {g : Nat} (h : e.length = 74 ∧ getE e 2 = v2 ∧ getE e 4 = v4 ∧ getE e 8 = .fn 63 [] [.ptr 3 3 0] ∧ getE e 9 = .ptr 5 g5 0 ∧ getE e 10 = .int .i64 j ∧ getE e 36 = v36 ∧ getE e 37 = v37 ∧ getE e 38 = .int .i64 j ∧ getE e 54 = enS fE 2 row kr ∧ getE e 55 = .int .i64 ins ∧ getE e 56 = .int .i64 (0 : Nat)) :
    ∃ ex e' H' g', X AP (.inl (some (H.length + 1)) Ydu) ⟨e, H ++ [some (gr, .cells ((List.replicate ins (0, 0)).flatMap fE) .fixed)], g, none⟩ = some (ex, ⟨e', H', g', none⟩) ∧ ex = .exit 4 ∧ H' = H ++ [some (gr, .cells ((row.map (movM M)).flatMap fE) .fixed)] ∧ e'.length = 74 ∧ getE e' 2 = v2 ∧ getE e' 4 = v4 ∧ getE e' 8 = .fn 63 [] [.ptr 3 3 0] ∧ getE e' 9 = .ptr 5 g5 0 ∧ getE e' 36 = v36 ∧ getE e' 37 = v37 ∧ getE e' 38 = .int .i64 j := by
  refine Zcj (fun k1 e H' g => ∃ (i : Nat) (K : Heap), k1 + i = ins ∧ (e.length = 74 ∧ getE e 2 = v2 ∧ getE e 4 = v4 ∧ getE e 8 = .fn 63 [] [.ptr 3 3 0] ∧ getE e 9 = .ptr 5 g5 0 ∧ getE e 10 = .int .i64 j ∧ getE e 36 = v36 ∧ getE e 37 = v37 ∧ getE e 38 = .int .i64 j ∧ getE e 54 = enS fE 2 row kr ∧ getE e 55 = .int .i64 ins ∧ getE e 56 = .int .i64 i) ∧ H' = H ++ some (gr, .cells ((Zfa (movM M) row i).flatMap fE) .fixed) :: K) _ ?_ ins e _ g ⟨0, [], by omega, h, by simp [Zfa, hrow]⟩
  rintro k1 e H' g ⟨i, K, hk, ⟨he, h2, h4, h8, h9, h10, h36, h37, h38, h54, h55, h56⟩, rfl⟩
  unfold Ydu
  have w1 : IntKind.i64.wrap ((i : Int) + 1) = ((i + 1 : Nat) : Int) := by rw [Zbf (by omega) (by omega)]; rfl
  have hT : (H ++ some (gr, O.cells ((Zfa (movM M) row i).flatMap fE) .fixed) :: K).take (H.length + 1) = H ++ [some (gr, O.cells ((Zfa (movM M) row i).flatMap fE) .fixed)] := by
    rw [List.take_append]; simp; exact List.take_of_length_le (by omega)
  have hbl : 6 + j = H.length := hb.symm
  rw [hbl] at b4r
  clear hbl
  by_cases hlt : i < ins
  · have hfl := Zwn (movM M) row i (by omega)
    have hfs := Zwm (movM M) row i (by omega)
    have hff : ((Zfa (movM M) row i).flatMap fE).length = ins * 2 := by rw [Zve, hfl, hrow]
    have c63 := f63 (row.getD i (0, 0)).1 (row.getD i (0, 0)).2 M
    have hsp : Zbh ((Zfa (movM M) row i).flatMap fE) (i * 2) [.int .i64 ((Zfx M (row.getD i (0, 0)).1).getD 0), .int .i64 (row.getD i (0, 0)).2] = (Zfa (movM M) row (i + 1)).flatMap fE := by
      rw [Ycf (by omega), ← hfs]; rfl
    have hiso : ∀ (own : List (Nat × Nat)) (id g : Nat) (H' : Heap) (x : Opd) (ys : List Opd), getH H' 3 3 = some (.cells [.mp 2 2] .fixed) → getH H' 2 2 = some (.map (mE M)) → opR AP own id g (.call .iso x ys) [.fn 63 [] [.ptr 3 3 0], .agg [.int .i64 (row.getD i (0, 0)).1, .int .i64 (row.getD i (0, 0)).2]] H' = some (.agg [.int .i64 ((Zfx M (row.getD i (0, 0)).1).getD 0), .int .i64 (row.getD i (0, 0)).2], H', [3, 2], []) := fun own id g H' x ys q1 q2 => by
      rw [Yci x ys 63 _ 3 3 2 2 M .fixed rfl (by simp [Zap, Zap.pureL]) q1 q2, c63]
      simp [isoF, Zdb, Zdb.flatL]
    clear c63
    have hd0 : getH (H ++ [some (gr, O.cells ((Zfa (movM M) row i).flatMap fE) .fixed)]) H.length gr = some (.cells ((Zfa (movM M) row i).flatMap fE) .fixed) := by rw [Zae]; simp [getH]
    have hd2 : getH (H ++ [some (gr, O.cells ((Zfa (movM M) row i).flatMap fE) .fixed)]) 2 2 = _ := (Zbb _ (by omega)).trans b2
    have hd3 : getH (H ++ [some (gr, O.cells ((Zfa (movM M) row i).flatMap fE) .fixed)]) 3 3 = _ := (Zbb _ (by omega)).trans b3
    have hd4 : getH (H ++ [some (gr, O.cells ((Zfa (movM M) row i).flatMap fE) .fixed)]) 4 g4 = _ := (Zbb _ (by omega)).trans b4
    have hd5 : getH (H ++ [some (gr, O.cells ((Zfa (movM M) row i).flatMap fE) .fixed)]) 5 g5 = _ := (Zbb _ (by omega)).trans b5
    have hds : ∀ x, (H ++ [some (gr, O.cells ((Zfa (movM M) row i).flatMap fE) .fixed)]).set H.length x = H ++ [x] := fun x => Zci H _ x []
    have hdl : (H ++ [some (gr, O.cells ((Zfa (movM M) row i).flatMap fE) .fixed)]).length = H.length + 1 := by simp
    generalize hHH : H ++ [some (gr, O.cells ((Zfa (movM M) row i).flatMap fE) .fixed)] = HH at *
    clear hHH b2 b3 b4 b5
    have hisoK := fun (own : List (Nat × Nat)) (id g : Nat) (K : Heap) (x : Opd) (ys : List Opd) => hiso own id g (HH ++ K) x ys ((Zbb _ (by omega)).trans hd3) ((Zbb _ (by omega)).trans hd2)
    clear hiso
    have hdl' := hdl.symm
    clear hdl
    simp only [hdl'] at hT ⊢
    simp (disch := first | assumption | decide | omega | (refine id ?_; simp (disch := decide) only [Zcq, Zdr, Zcr, List.mem_cons, List.not_mem_nil, or_false, false_or, forall_eq, forall_eq_or_imp, false_implies, implies_true, not_false_eq_true, and_self, and_true, true_and, not_or]; first | done | omega) | (refine id ?_; simp only [go_sem, Zaf, Zag, Zah, Zae, Zad, Nat.add_assoc, List.length_map, List.length_range, Nat.reduceAdd, *]; first | done | decide | omega)) only [go_sem, Nat.reduceAdd, Nat.reduceMul, Nat.reduceSub, Nat.reduceLeDiff, Nat.reduceLT, Nat.reduceEqDiff, h2, h4, h8, h9, h10, h36, h37, h38, h54, h55, h56, he, hT, w1, Zat, Zan, Zam, List.getD_cons_zero, Zar, Zau, Zav, Zal, Zao, Zaj, Zai, Zak, Zbb, hisoK, hd0, hd2, hd3, hd4, b4r, hd5, hsp, hff, Zae, Zad, List.append_assoc, Zci, Zfi, Zqu, hds]
    exact ⟨_, _, _, _, rfl, .inl ⟨rfl, k1 - 1, by omega, i + 1, _, by omega, ⟨(by simp (disch := first | decide | (simp only [Zaa, *]; omega)) only [Zac, Zab, Zaa, he] <;> rfl), (by simp (disch := first | decide | (simp only [Zaa, *]; omega)) only [Zac, Zab, Zaa, h2] <;> rfl), (by simp (disch := first | decide | (simp only [Zaa, *]; omega)) only [Zac, Zab, Zaa, h4] <;> rfl), (by simp (disch := first | decide | (simp only [Zaa, *]; omega)) only [Zac, Zab, Zaa, h8] <;> rfl), (by simp (disch := first | decide | (simp only [Zaa, *]; omega)) only [Zac, Zab, Zaa, h9] <;> rfl), (by simp (disch := first | decide | (simp only [Zaa, *]; omega)) only [Zac, Zab, Zaa, h10] <;> rfl), (by simp (disch := first | decide | (simp only [Zaa, *]; omega)) only [Zac, Zab, Zaa, h36] <;> rfl), (by simp (disch := first | decide | (simp only [Zaa, *]; omega)) only [Zac, Zab, Zaa, h37] <;> rfl), (by simp (disch := first | decide | (simp only [Zaa, *]; omega)) only [Zac, Zab, Zaa, h38] <;> rfl), (by simp (disch := first | decide | (simp only [Zaa, *]; omega)) only [Zac, Zab, Zaa, h54] <;> rfl), (by simp (disch := first | decide | (simp only [Zaa, *]; omega)) only [Zac, Zab, Zaa, h55] <;> rfl), (by simp (disch := first | decide | (simp only [Zaa, *]; omega)) only [Zac, Zab, Zaa, he] <;> rfl)⟩, rfl⟩⟩
  · have hi' : i = ins := by omega
    subst hi'
    simp (disch := first | assumption | decide | omega | (refine id ?_; simp only [go_sem, Zaf, Zag, Zah, Zae, Zad, Nat.add_assoc, List.length_map, List.length_range, Nat.reduceAdd, *]; first | done | decide | omega)) only [go_sem, Nat.reduceAdd, Nat.reduceMul, Nat.reduceSub, Nat.reduceLeDiff, Nat.reduceLT, Nat.reduceEqDiff, h2, h4, h8, h9, h10, h36, h37, h38, h54, h55, h56, he, hT]
    exact ⟨_, _, _, _, rfl, .inr ⟨by simp, rfl, by rw [← hrow, Ztm], (by simp (disch := first | decide | (simp only [Zaa, *]; omega)) only [Zac, Zab, Zaa, he] <;> rfl), (by simp (disch := first | decide | (simp only [Zaa, *]; omega)) only [Zac, Zab, Zaa, h2] <;> rfl), (by simp (disch := first | decide | (simp only [Zaa, *]; omega)) only [Zac, Zab, Zaa, h4] <;> rfl), (by simp (disch := first | decide | (simp only [Zaa, *]; omega)) only [Zac, Zab, Zaa, h8] <;> rfl), (by simp (disch := first | decide | (simp only [Zaa, *]; omega)) only [Zac, Zab, Zaa, h9] <;> rfl), (by simp (disch := first | decide | (simp only [Zaa, *]; omega)) only [Zac, Zab, Zaa, h36] <;> rfl), (by simp (disch := first | decide | (simp only [Zaa, *]; omega)) only [Zac, Zab, Zaa, h37] <;> rfl), (by simp (disch := first | decide | (simp only [Zaa, *]; omega)) only [Zac, Zab, Zaa, h38] <;> rfl)⟩⟩
theorem L32_2 (hm : OKM ins outs rows) {l : List Int} {kl : SC} (hl : l.length ≤ 1000) (hr : ∀ x ∈ l, 0 ≤ x ∧ x < rows.length) {M : List (Int × Int)} {g4 g5 : Nat} {H : Heap} (hI : I32 k k' ins outs rows M g4 g5 l.length 0 [] (fun j => (rows.getD (l.getD j 0).toNat []).map (movM M)) H) {e : List V} {g : Nat} (h : e.length = 74 ∧ getE e 2 = .ptr 0 0 0 ∧ getE e 4 = .ptr 1 1 0 ∧ getE e 8 = .fn 63 [] [.ptr 3 3 0] ∧ getE e 9 = .ptr 5 g5 0 ∧ getE e 36 = ints l kl ∧ getE e 37 = .int .i64 l.length ∧ getE e 38 = .int .i64 (0 : Nat)) :
    ∃ ex e' H' g', X AP (.inl none Yet) ⟨e, H, g, none⟩ = some (ex, ⟨e', H', g', none⟩) ∧ ex = .exit 2 ∧ (∃ gs, I32 k k' ins outs rows M g4 g5 l.length l.length gs (fun j => (rows.getD (l.getD j 0).toNat []).map (movM M)) H') ∧ e'.length = 74 ∧ getE e' 4 = .ptr 1 1 0 ∧ getE e' 9 = .ptr 5 g5 0 := by
  refine Zcj (fun k1 e H g => ∃ (j : Nat) (gs : List Nat), k1 + j = l.length ∧ (e.length = 74 ∧ getE e 2 = .ptr 0 0 0 ∧ getE e 4 = .ptr 1 1 0 ∧ getE e 8 = .fn 63 [] [.ptr 3 3 0] ∧ getE e 9 = .ptr 5 g5 0 ∧ getE e 36 = ints l kl ∧ getE e 37 = .int .i64 l.length ∧ getE e 38 = .int .i64 j) ∧ I32 k k' ins outs rows M g4 g5 l.length j gs (fun j => (rows.getD (l.getD j 0).toNat []).map (movM M)) H) _ ?_ l.length e _ g ⟨0, [], by omega, h, hI⟩
  rintro k1 e H g ⟨j, gs, hk, ⟨he, h2, h4, h8, h9, h36, h37, h38⟩, hI⟩
  unfold Yet
  have hi2 := hm.i2
  have w1 : IntKind.i64.wrap ((j : Int) + 1) = ((j + 1 : Nat) : Int) := by rw [Zbf (by omega) (by omega)]; rfl
  by_cases hlt : j < l.length
  · have hrj := hr (l.getD j 0) (Zdf 0 hlt)
    obtain ⟨s, hs⟩ : ∃ s : Nat, l.getD j 0 = s := ⟨(l.getD j 0).toNat, by omega⟩
    have hsn : s < rows.length := by omega
    have hrow := hm.len s hsn
    obtain ⟨q1, q2, q3, q4, q5, q6, q7, q8, q9⟩ := hI
    have hcl : (refL ins 6 gs ++ List.replicate (l.length - gs.length) V.nils).length = l.length := by simp [Zie]; omega
    have hsp := fun gn => Zsk ins l.length 6 gn gs (by omega)
    rw [q2, ← q1] at hsp
    rw [q2] at hcl q7
    have hrep : (List.replicate ins [V.int .i64 0, V.int .i64 0]).flatten = (List.replicate ins ((0 : Int), (0 : Int))).flatMap fE := Zgn (f := fE) ins (0, 0)
    generalize hcs : refL ins 6 gs ++ List.replicate (l.length - j) V.nils = cs at *
    simp (disch := first | assumption | decide | omega | (refine id ?_; simp (disch := decide) only [Zcq, Zdr, Zcr, List.mem_cons, List.not_mem_nil, or_false, false_or, forall_eq, forall_eq_or_imp, false_implies, implies_true, not_false_eq_true, and_self, and_true, true_and, not_or]; first | done | omega) | (refine id ?_; simp only [go_sem, Zaf, Zag, Zah, Zae, Zad, Nat.add_assoc, List.length_map, List.length_range, Nat.reduceAdd, *]; first | done | decide | omega)) only [go_sem, Nat.reduceAdd, Nat.reduceMul, Nat.reduceSub, Nat.reduceLeDiff, Nat.reduceLT, Nat.reduceEqDiff, h2, h4, h8, h9, h36, h37, h38, he, w1, Zat, Zan, Zam, List.getD_cons_zero, Zar, Zau, Zav, Zal, Zao, Zaj, Zai, Zak, Zcw, q3, q4, q5, q6, q7, q8, Zbb, hs, Zqu, hcl, hsp, hrep, Zci, Zae, hrow]
    generalize hE : putE _ _ _ = E
    have hEl : E.length = 74 := by subst hE; simp (disch := first | decide | (simp only [Zaa, *]; omega)) only [Zac, Zab, Zaa, he]
    have p2 : getE E 2 = .ptr 0 0 0 := by subst hE; simp (disch := first | decide | (simp only [Zaa, *]; omega)) only [Zac, Zab, Zaa, h2]
    have p4 : getE E 4 = .ptr 1 1 0 := by subst hE; simp (disch := first | decide | (simp only [Zaa, *]; omega)) only [Zac, Zab, Zaa, h4]
    have p8 : getE E 8 = .fn 63 [] [.ptr 3 3 0] := by subst hE; simp (disch := first | decide | (simp only [Zaa, *]; omega)) only [Zac, Zab, Zaa, h8]
    have p9 : getE E 9 = .ptr 5 g5 0 := by subst hE; simp (disch := first | decide | (simp only [Zaa, *]; omega)) only [Zac, Zab, Zaa, h9]
    have p10 : getE E 10 = .int .i64 j := by subst hE; simp (disch := first | decide | (simp only [Zaa, *]; omega)) only [Zac, Zab, Zaa, he]
    have p36 : getE E 36 = ints l kl := by subst hE; simp (disch := first | decide | (simp only [Zaa, *]; omega)) only [Zac, Zab, Zaa, h36]
    have p37 : getE E 37 = .int .i64 l.length := by subst hE; simp (disch := first | decide | (simp only [Zaa, *]; omega)) only [Zac, Zab, Zaa, h37]
    have p38 : getE E 38 = .int .i64 j := by subst hE; simp (disch := first | decide | (simp only [Zaa, *]; omega)) only [Zac, Zab, Zaa, h38]
    have p54 : getE E 54 = enS fE 2 (rows.getD s []) k' := by subst hE; simp (disch := first | decide | (simp only [Zaa, *]; omega)) only [Zac, Zab, Zaa, he]
    have p55 : getE E 55 = .int .i64 ins := by subst hE; simp (disch := first | decide | (simp only [Zaa, *]; omega)) only [Zac, Zab, Zaa, he]
    have p56 : getE E 56 = .int .i64 (0 : Nat) := by subst hE; simp (disch := first | decide | (simp only [Zaa, *]; omega)) only [Zac, Zab, Zaa, he, Int.natCast_zero]
    clear hE
    have hsp1 := hsp g
    rw [Nat.mul_one, hsp1]
    have hld : ldC 1 false j (refL ins 6 (gs ++ [g]) ++ List.replicate (l.length - (j + 1)) V.nils) = some (.sl (6 + j) g 2 0 ins (some ins)) := by
      have := ref_ld ins l.length 6 (gs ++ [g]) g j (by rw [List.getElem?_append_right (by omega), q2]; simp)
      rw [List.length_append, q2] at this
      exact this
    have h4l : 4 < H.length := by omega
    obtain ⟨ex, e1, H1, g1, hx, rfl, rfl, he1, r2, r4, r8, r9, r36, r37, r38⟩ := L32_3 (outs := outs) (M := M) (g4 := g4) (g5 := g5) (n := l.length) (j := j) (ins := ins) hi2 (gr := g) (row := rows.getD s []) (kr := k') hrow
      (H := H.set 4 (some (g4, .cells (refL ins 6 (gs ++ [g]) ++ List.replicate (l.length - (j + 1)) V.nils) .fixed))) (by rw [List.length_set]; exact q1) hlt
      (by rw [Zas _ (by decide)]; exact q5) (by rw [Zas _ (by decide)]; exact q6) (Zay _ h4l) (by rw [Nat.mul_one]; exact hld) (by rw [Zas _ (by decide)]; exact q8) (g := g + 1) ⟨hEl, p2, p4, p8, p9, p10, p36, p37, p38, p54, p55, p56⟩
    rw [List.length_set] at hx
    rw [hx]
    simp (disch := first | assumption | decide | omega | (refine id ?_; simp only [go_sem, Zaf, Zag, Zah, Zae, Zad, Nat.add_assoc, List.length_map, List.length_range, Nat.reduceAdd, *]; first | done | decide | omega)) only [go_sem, Nat.reduceAdd, Nat.reduceMul, Nat.reduceSub, Nat.reduceLeDiff, Nat.reduceLT, Nat.reduceEqDiff, r2, r4, r8, r9, r36, r37, r38, he1, w1]
    refine ⟨_, _, _, _, rfl, .inl ⟨rfl, k1 - 1, by omega, j + 1, gs ++ [g], by omega, ⟨(by simp (disch := first | decide | (simp only [Zaa, *]; omega)) only [Zac, Zab, Zaa, he1] <;> rfl), (by simp (disch := first | decide | (simp only [Zaa, *]; omega)) only [Zac, Zab, Zaa, r2] <;> rfl), (by simp (disch := first | decide | (simp only [Zaa, *]; omega)) only [Zac, Zab, Zaa, r4] <;> rfl), (by simp (disch := first | decide | (simp only [Zaa, *]; omega)) only [Zac, Zab, Zaa, r8] <;> rfl), (by simp (disch := first | decide | (simp only [Zaa, *]; omega)) only [Zac, Zab, Zaa, r9] <;> rfl), (by simp (disch := first | decide | (simp only [Zaa, *]; omega)) only [Zac, Zab, Zaa, r36] <;> rfl), (by simp (disch := first | decide | (simp only [Zaa, *]; omega)) only [Zac, Zab, Zaa, r37] <;> rfl), (by simp (disch := first | decide | (simp only [Zaa, *]; omega)) only [Zac, Zab, Zaa, he1] <;> rfl)⟩, ?_⟩⟩
    refine ⟨by simp; omega, by simp [q2], ?_, ?_, ?_, ?_, ?_, ?_, ?_⟩
    · rw [Zbb _ (by rw [List.length_set]; omega), Zas _ (by decide)]; exact q3
    · rw [Zbb _ (by rw [List.length_set]; omega), Zas _ (by decide)]; exact q4
    · rw [Zbb _ (by rw [List.length_set]; omega), Zas _ (by decide)]; exact q5
    · rw [Zbb _ (by rw [List.length_set]; omega), Zas _ (by decide)]; exact q6
    · rw [Zbb _ (by rw [List.length_set]; omega), Zay _ h4l, List.length_append, q2]; rfl
    · rw [Zbb _ (by rw [List.length_set]; omega), Zas _ (by decide)]; exact q8
    · intro i gi hi
      by_cases hij : i < gs.length
      · rw [List.getElem?_append_left hij] at hi
        rw [Zbb _ (by rw [List.length_set]; omega), Zas _ (by omega)]; exact q9 i gi hi
      · have hi' : i = j := by
          have := (List.getElem?_eq_some_iff.mp hi).1
          simp at this; omega
        subst hi'
        rw [List.getElem?_append_right (by omega), q2] at hi
        simp at hi
        subst hi
        have key : ∀ Z : Heap, Z.length = H.length → getH (Z ++ [some (g, O.cells (List.flatMap fE (List.map (movM M) (rows.getD s []))) Kd.fixed)]) (6 + i) g = some (.cells (List.flatMap fE (List.map (movM M) (rows.getD s []))) .fixed) := fun Z hZ => by
          rw [← q1, ← hZ, Zae]; simp [getH]
        have := key _ (List.length_set (as := H) (i := 4) (a := some (g4, .cells (refL ins 6 (gs ++ [g]) ++ List.replicate (l.length - (i + 1)) V.nils) .fixed)))
        simp only [hs, Int.toNat_natCast]
        exact this
  · have hj : j = l.length := by omega
    subst hj
    simp (disch := first | assumption | decide | omega | (refine id ?_; simp only [go_sem, Zaf, Zag, Zah, Zae, Zad, Nat.add_assoc, List.length_map, List.length_range, Nat.reduceAdd, *]; first | done | decide | omega)) only [go_sem, Nat.reduceAdd, Nat.reduceMul, Nat.reduceSub, Nat.reduceLeDiff, Nat.reduceLT, Nat.reduceEqDiff, h2, h4, h8, h9, h36, h37, h38, he, w1]
    exact ⟨_, _, _, _, rfl, .inr ⟨by simp, rfl, ⟨gs, hI⟩, (by simp (disch := first | decide | (simp only [Zaa, *]; omega)) only [Zac, Zab, Zaa, he] <;> rfl), (by simp (disch := first | decide | (simp only [Zaa, *]; omega)) only [Zac, Zab, Zaa, h4] <;> rfl), (by simp (disch := first | decide | (simp only [Zaa, *]; omega)) only [Zac, Zab, Zaa, h9] <;> rfl)⟩⟩
def Zmw (rows : List (List (Int × Int))) (l : List Int) : List (List (Int × Int)) := l.map fun s => (rows.getD s.toNat []).map (movM (atM l l.length))
theorem f32 (hm : OKM ins outs rows) {l : List Int} {kl : SC} (hl : l.length ≤ 1000) (hne : l ≠ []) (hr : ∀ x ∈ l, 0 ≤ x ∧ x < rows.length) : Zaq AP (X AP) false 32 [encM k k' ins outs rows, ints l kl] = some (encM (.c (some l.length)) (.c (some ins)) ins outs (Zmw rows l), none) := by
  obtain ⟨e, he, hg, hx⟩ := Zaz AP32 (args := [encM k k' ins outs rows, ints l kl]) rfl (by decide)
  have he : e.length = 74 := he
  have h0 : getE e 0 = encM k k' ins outs rows := hg 0 (by simp only [List.length_cons]; omega)
  have h1 : getE e 1 = ints l kl := hg 1 (by simp only [List.length_cons]; omega)
  rw [hx]; clear hx hg; unfold c32
  have hmE : mE [(-1, -1)] = [(V.int .i64 (-1), V.int .i64 (-1))] := rfl
  simp (disch := first | assumption | decide | omega | (refine id ?_; simp only [go_sem, Zaf, Zag, Zah, Zae, Zad, Nat.add_assoc, List.length_map, List.length_range, Nat.reduceAdd, *]; first | done | decide | omega)) only [go_sem, Nat.reduceAdd, Nat.reduceMul, Nat.reduceSub, Nat.reduceLeDiff, Nat.reduceLT, Nat.reduceEqDiff, h0, h1, he, Zat, Zan, Zam, List.getD_cons_zero, Zar, Zau, Zav, Zal, Zao, Zaj, Zai, Zak, o_mkm, Yad, Zxi, putM]
  generalize hE : putE _ _ _ = E
  have hEl : E.length = 74 := by subst hE; simp (disch := first | decide | (simp only [Zaa, *]; omega)) only [Zac, Zab, Zaa, he]
  have p1 : getE E 1 = ints l kl := by subst hE; simp (disch := first | decide | (simp only [Zaa, *]; omega)) only [Zac, Zab, Zaa, h1]
  have p2 : getE E 2 = .ptr 0 0 0 := by subst hE; simp (disch := first | decide | (simp only [Zaa, *]; omega)) only [Zac, Zab, Zaa, he]
  have p4 : getE E 4 = .ptr 1 1 0 := by subst hE; simp (disch := first | decide | (simp only [Zaa, *]; omega)) only [Zac, Zab, Zaa, he]
  have p5 : getE E 5 = .ptr 3 3 0 := by subst hE; simp (disch := first | decide | (simp only [Zaa, *]; omega)) only [Zac, Zab, Zaa, he]
  have p16 : getE E 16 = ints l kl := by subst hE; simp (disch := first | decide | (simp only [Zaa, *]; omega)) only [Zac, Zab, Zaa, h1]
  have p17 : getE E 17 = .int .i64 l.length := by subst hE; simp (disch := first | decide | (simp only [Zaa, *]; omega)) only [Zac, Zab, Zaa, he]
  have p18 : getE E 18 = .int .i64 (0 : Nat) := by subst hE; simp (disch := first | decide | (simp only [Zaa, *]; omega)) only [Zac, Zab, Zaa, he, Int.natCast_zero]
  obtain ⟨ex, e1, H1, g1, hx, rfl, rfl, he1, q1, q2, q4, q5⟩ := L32_1 (kl := kl) hl (x0 := some (0, oM k k' ins outs rows)) (x1 := some (1, .cells [.int .i64 0, .int .i64 0, .nils] .fixed)) (g := 4) ⟨hEl, p1, p2, p4, p5, p16, p17, p18⟩
  rw [hx]
  clear hx hE
  have hrep : (List.replicate l.length [V.nils]).flatten = List.replicate l.length V.nils := by simp
  simp (disch := first | assumption | decide | omega | (refine id ?_; simp (disch := decide) only [Zcq, Zdr, Zcr, List.mem_cons, List.not_mem_nil, or_false, false_or, forall_eq, forall_eq_or_imp, false_implies, implies_true, not_false_eq_true, and_self, and_true, true_and, not_or]; first | done | omega) | (refine id ?_; simp only [go_sem, Zaf, Zag, Zah, Zae, Zad, Nat.add_assoc, List.length_map, List.length_range, Nat.reduceAdd, *]; first | done | decide | omega)) only [go_sem, Nat.reduceAdd, Nat.reduceMul, Nat.reduceSub, Nat.reduceLeDiff, Nat.reduceLT, Nat.reduceEqDiff, q1, q2, q4, q5, he1, Zat, Zan, Zam, List.getD_cons_zero, Zar, Zau, Zav, Zal, Zao, Zaj, Zai, Zak, Zcw, hrep]
  generalize hE : putE _ _ _ = E
  have hEl : E.length = 74 := by subst hE; simp (disch := first | decide | (simp only [Zaa, *]; omega)) only [Zac, Zab, Zaa, he1]
  have r2 : getE E 2 = .ptr 0 0 0 := by subst hE; simp (disch := first | decide | (simp only [Zaa, *]; omega)) only [Zac, Zab, Zaa, q2]
  have r4 : getE E 4 = .ptr 1 1 0 := by subst hE; simp (disch := first | decide | (simp only [Zaa, *]; omega)) only [Zac, Zab, Zaa, q4]
  have r8 : getE E 8 = .fn 63 [] [.ptr 3 3 0] := by subst hE; simp (disch := first | decide | (simp only [Zaa, *]; omega)) only [Zac, Zab, Zaa, he1]
  have r9 : getE E 9 = .ptr 5 (g1 + 1) 0 := by subst hE; simp (disch := first | decide | (simp only [Zaa, *]; omega)) only [Zac, Zab, Zaa, he1]
  have r36 : getE E 36 = ints l kl := by subst hE; simp (disch := first | decide | (simp only [Zaa, *]; omega)) only [Zac, Zab, Zaa, q1]
  have r37 : getE E 37 = .int .i64 l.length := by subst hE; simp (disch := first | decide | (simp only [Zaa, *]; omega)) only [Zac, Zab, Zaa, he1]
  have r38 : getE E 38 = .int .i64 (0 : Nat) := by subst hE; simp (disch := first | decide | (simp only [Zaa, *]; omega)) only [Zac, Zab, Zaa, he1, Int.natCast_zero]
  clear hE
  obtain ⟨ex, e2, H2, g2, hx, rfl, ⟨gs, hI⟩, he2, s4, s9⟩ := L32_2 (k := k) (k' := k') hm hl hr (M := atM l l.length) (g4 := g1) (g5 := g1 + 1) (kl := kl)
    (H := [some (0, oM k k' ins outs rows), some (1, .cells [.int .i64 0, .int .i64 0, .nils] .fixed), some (2, .map (mE (atM l l.length))), some (3, .cells [.mp 2 2] .fixed), some (g1, .cells (List.replicate l.length .nils) .fixed), some (g1 + 1, .cells [.int .i64 ins, .int .i64 outs, .sl 4 g1 1 0 l.length (some l.length)] .fixed)])
    ⟨rfl, rfl, rfl, rfl, rfl, rfl, by simp [getH, refL], by simp [getH], by intro i g h; simp at h⟩ (g := g1 + 2) ⟨hEl, r2, r4, r8, r9, r36, r37, r38⟩
  rw [hx]
  clear hx
  obtain ⟨z1, z2, z3, z4, z5, z6, z7, z8, z9⟩ := hI
  have z1' : 1 < H2.length := by omega
  simp (disch := first | assumption | decide | omega | (refine id ?_; simp only [go_sem, Zaf, Zag, Zah, Zae, Zad, Nat.add_assoc, List.length_map, List.length_range, Nat.reduceAdd, *]; first | done | decide | omega)) only [go_sem, Nat.reduceAdd, Nat.reduceMul, Nat.reduceSub, Nat.reduceLeDiff, Nat.reduceLT, Nat.reduceEqDiff, s4, s9, he2, z8, z4]
  rw [z2, Nat.sub_self, List.replicate_zero, List.append_nil] at z7
  refine Zun (b := 6) (gs := gs) (Zce ..) (Zce ..) (by simp [Zmw]) (by simp [Zmw]; exact hne) (by simp [Zmw]; exact z2) (by decide) ?_ ?_ ?_
  · rw [Zas _ (by decide)]; exact z7
  · intro j g hj
    have hjl := (List.getElem?_eq_some_iff.mp hj).1
    rw [Zas _ (by omega), z9 j g hj]
    simp [Zmw, List.getD_eq_getElem?_getD, show j < l.length by omega]
  · intro r hrr
    obtain ⟨s, hs, rfl⟩ := List.mem_map.mp hrr
    have := hr s hs
    rw [List.length_map]
    exact hm.len s.toNat (by omega)
end
end Go.AM
