/- Calls that are handed records with slices. -/
import Derived.Test.YteooegmokbbeoaaGauBl
import Derived.Test.YteooegmokbbeoaaGauBh
set_option linter.unusedVariables false
set_option linter.unusedSimpArgs false
namespace Go.AM
variable {P : Zce} {own : List (Nat × Nat)} {id g : Nat} {H : Heap}
def Zrl (H : Heap) (v : V) : Option (List Nat × V) :=
  if Zak v = true then some ([], v) else match v with
  | .agg vs => match Zfm H vs with
    | some (r, vs') => some (r, .agg vs')
    | none => none
  | v => Zie H v
def Zfx (H : Heap) : List V → Option (List Nat × List V)
  | [] => some ([], [])
  | v :: vs => match Zrl H v with
    | some (r, v') => match Zfx H vs with
      | some (rs, vs') => some (r ++ rs, v' :: vs')
      | none => none
    | none => none
theorem Znn {d : Nat} {v v' : V} {r : List Nat} (h : Zrl H v = some (r, v')) (k : V → Plan) : runP (Zav false (d + 2) v k) H = (runP (k v') H).map fun q => (q.1, q.2.1, r ++ q.2.2.1, q.2.2.2) := by
  unfold Zrl at h
  by_cases hp : Zak v = true
  · rw [if_pos hp] at h
    simp only [Option.some.injEq, Prod.mk.injEq] at h
    obtain ⟨rfl, rfl⟩ := h
    rw [Zdw _ _ _ hp]
    cases runP (k v) H <;> rfl
  · rw [if_neg hp] at h
    have hp2 : Zak v = false := by simpa using hp
    cases v
    case agg vs =>
      simp only at h
      cases hs : Zfm H vs with
      | none => rw [hs] at h; cases h
      | some q =>
        obtain ⟨r1, vs1⟩ := q
        rw [hs] at h
        simp only [Option.some.injEq, Prod.mk.injEq] at h
        obtain ⟨rfl, rfl⟩ := h
        rw [Zav]
        simp only [hp2, Bool.false_eq_true, if_false]
        exact Zhh hs _
    all_goals exact Zkc (d := d + 1) h k
theorem Zln {d : Nat} : ∀ {vs vs' : List V} {r : List Nat} (h : Zfx H vs = some (r, vs')) (k : List V → Plan), runP (Zby (Zav false (d + 2)) vs k) H = (runP (k vs') H).map fun q => (q.1, q.2.1, r ++ q.2.2.1, q.2.2.2)
  | [], vs', r, h, k => by
    simp only [Zfx, Option.some.injEq, Prod.mk.injEq] at h
    obtain ⟨rfl, rfl⟩ := h
    simp only [Zby]
    cases runP (k []) H <;> rfl
  | v :: vs, vs', r, h, k => by
    simp only [Zfx] at h
    cases hv : Zrl H v with
    | none => rw [hv] at h; cases h
    | some q =>
      obtain ⟨r1, v1⟩ := q
      rw [hv] at h
      simp only at h
      cases hl : Zfx H vs with
      | none => rw [hl] at h; cases h
      | some q2 =>
        obtain ⟨r2, vs2⟩ := q2
        rw [hl] at h
        simp only [Option.some.injEq, Prod.mk.injEq] at h
        obtain ⟨rfl, rfl⟩ := h
        simp only [Zby]
        rw [Znn hv, Zln hl]
        cases runP (k (v1 :: vs2)) H <;> simp
theorem Zmn (x : Opd) (ys : List Opd) (f : Nat) (args args' : List V) (rs : List Nat) (hs : Zfx H args = some (rs, args')) (hn : Zak.pureL args = false) : opR P own id g (.call .iso x ys) (.fn f [] [] :: args) H = isoF rs H (Zaq P (X P) false f args') := by
  show runP (Zbg false 9 ([] ++ args ++ []) fun args' => match Zaq P (X P) false f args' with
      | some (v', none) => if Zak.pureL ([] ++ args ++ []) || Zcz v' then .ret v' else .no
      | _ => .no) H = _
  simp only [List.nil_append, List.append_nil, Zbg, hn, Bool.false_eq_true, if_false]
  rw [Zln (d := 7) hs]
  cases Zaq P (X P) false f args' with
  | none => rfl
  | some q =>
    obtain ⟨v', o⟩ := q
    cases o with
    | none => simp only [isoF, Bool.false_or]; by_cases hf : Zcz v' = true <;> simp [hf, runP]
    | some o => rfl
theorem Zfw : Zfx H [] = some ([], []) := (rfl)
theorem Zuy {v : V} (vs : List V) (h : Zak v = true) : Zfx H (v :: vs) = Zzu (some ([], v)) (Zfx H vs) := by
  simp only [Zfx, Zrl, if_pos h]
  cases Zfx H vs <;> rfl
theorem Zdz {cs cs' vs vs' : List V} {r rs : List Nat} (h : Zak.pureL cs = false) (h1 : Zfm H cs = some (r, cs')) (h2 : Zfx H vs = some (rs, vs')) : Zfx H (.agg cs :: vs) = some (r ++ rs, .agg cs' :: vs') := by
  simp only [Zfx, Zrl, Zak, h, Bool.false_eq_true, if_false, h1, h2]
theorem Zzy {i gi sz off n : Nat} {c : Option Nat} {v' : V} {vs vs' : List V} {r rs : List Nat} (h1 : Zie H (.sl i gi sz off n c) = some (r, v')) (h2 : Zfx H vs = some (rs, vs')) : Zfx H (.sl i gi sz off n c :: vs) = some (r ++ rs, v' :: vs') := by
  simp only [Zfx, Zrl, Zak, Bool.false_eq_true, if_false, h1, h2]
theorem Zma : ∀ (d : Nat) (cs : List V) (k : List V → Plan), Zak.pureL cs = true → Zby (Zav true d) cs k = k cs
  | _, [], k, _ => rfl
  | d, c :: cs, k, hc => by
    simp only [Zax, Bool.and_eq_true] at hc
    simp only [Zby]
    rw [Zcn _ _ _ hc.1, Zma d cs _ hc.2]
theorem Zxb (op : Aop) (f : Nat) {a b : V} {i gi n : Nat} {c : Option Nat} {cs rest : List V} (ha : Zak a = true) (hb : Zak b = true) (hr : Zak.pureL rest = true) (hg : getH H i gi = some (.cells cs .froz)) (hn : n = cs.length) (hp : Zak.pureL cs = true) : frzR P own id g op (.fn f [] [] :: .agg [a, b, .sl i gi 1 0 n c] :: rest) H = (opR P own id g op (.fn f [] [] :: .agg [a, b, .arr cs 1 n c] :: rest) H).map fun q => (q.1, q.2.1, i :: q.2.2.1, q.2.2.2) := by
  subst hn
  have hc : cut cs 0 (cs.length * 1) = cs := by simp [cut]
  have hl : 0 + cs.length * 1 ≤ cs.length := by omega
  have hq : Zak (.agg [a, b, .sl i gi 1 0 cs.length c]) = false := by simp [Zak, Zak.pureL]
  unfold frzR Zbg
  simp only [Zax, hq, Bool.false_and, Bool.and_false, Bool.false_eq_true, if_false, Zby]
  rw [Zcn _ _ _ (by simp [Zak, Zak.pureL])]
  rw [Zav]
  simp only [hq, Bool.false_eq_true, if_false, Zby]
  rw [Zcn _ _ _ ha, Zcn _ _ _ hb]
  rw [Zav]
  simp only [Zak, Bool.false_eq_true, if_false, runP, hg, hl, if_true, hp, frzK, hc]
  rw [Zma _ rest _ hr]
  unfold opR
  cases runP (Zaz (Zaq P (X P)) own id g op (V.fn f [] [] :: V.agg [a, b, V.arr cs 1 cs.length c] :: rest)) H <;> rfl
theorem Yak (op : Aop) (f : Nat) {vs vs' rest : List V} {H' : Heap} {r w : List Nat} (hn : Zak.pureL vs = false) (hr : Zak.pureL rest = true) (h : frzA H vs = some (vs', H', r, w)) : frzR P own id g op (.fn f [] [] :: .agg vs :: rest) H = (opR P own id g op (.fn f [] [] :: .agg vs' :: rest) H').map fun q => (q.1, q.2.1, r ++ q.2.2.1, w ++ q.2.2.2) := by
  have hp : ∀ (cs : List V) (k : List V → Plan), Zak.pureL cs = true → Zby (Zav true 9) cs k = k cs := by
    intro cs
    induction cs with
    | nil => intro k _; rfl
    | cons c cs ih =>
      intro k hc
      simp only [Zax, Bool.and_eq_true] at hc
      simp only [Zby]
      rw [Zcn _ _ _ hc.1, ih _ hc.2]
  unfold frzR Zbg
  simp only [Zax, Zak, hn, Bool.false_and, Bool.and_false, Bool.false_eq_true, if_false, Zby]
  rw [Zcn _ _ _ (by simp [Zak, Zak.pureL])]
  rw [Zav]
  simp only [Zak, hn, Bool.false_eq_true, if_false]
  rw [Zit (d := 7) h]
  rw [hp rest _ hr]
  rfl
end Go.AM
