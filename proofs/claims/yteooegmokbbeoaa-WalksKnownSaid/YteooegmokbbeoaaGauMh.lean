/- Machines with one canonical form: which state belongs to which. -/
import Derived.Test.YteooegmokbbeoaaGauMf
set_option linter.unusedVariables false
set_option linter.unusedSimpArgs false
namespace Go.AM
theorem Zsf {n : Nat} {la lb : List Int} (hd : la.Nodup) (hr : ∀ x ∈ la, 0 ≤ x ∧ x < n) : ∀ j, j ≤ la.length → ∀ s : Nat, s < n → (isoL n la lb j).getD s 0 = if ∃ i, i < j ∧ la.getD i 0 = s then lb.getD (pos la s).toNat 0 else -1
  | 0, _, s, hs => by
    rw [if_neg (by rintro ⟨i, hi, _⟩; omega)]
    simp [isoL, List.getD_eq_getElem?_getD, hs]
  | j + 1, hj, s, hs => by
    have ih := Zsf (lb := lb) hd hr j (by omega) s hs
    have hx := hr _ (Zci 0 (show j < la.length by omega))
    have hl := Zij n la lb j
    have hp := Zlr hd (show j < la.length by omega)
    simp only [isoL]
    rw [List.getD_eq_getElem?_getD, List.getElem?_set]
    by_cases e : (la.getD j 0).toNat = s
    · rw [if_pos e, if_pos (by omega)]
      have e' : la.getD j 0 = s := by omega
      rw [if_pos ⟨j, by omega, e'⟩, ← e', hp]
      rfl
    · rw [if_neg e, ← List.getD_eq_getElem?_getD, ih]
      by_cases h : ∃ i, i < j ∧ la.getD i 0 = s
      · rw [if_pos h, if_pos (by obtain ⟨i, h1, h2⟩ := h; exact ⟨i, by omega, h2⟩)]
      · rw [if_neg h, if_neg]
        rintro ⟨i, h1, h2⟩
        by_cases hij : i = j
        · subst hij; omega
        · exact h ⟨i, by omega, h2⟩
section
variable {ins outs insb outsb : Nat} {rows rowsb : List (List (Int × Int))}
theorem Ziy (r : List (Nat × Word)) (i : Nat) (h : i < r.length) : (ordR r).getD i 0 = ((r.getD i (0, [])).1 : Int) := by
  unfold ordR; simp [List.getD_eq_getElem?_getD, h]
/-- Machines with one canonical form Zcp their states by the same words. -/
theorem Zug (hm : OKM ins outs rows) (hmb : OKM insb outsb rowsb) {ra rb : List (Nat × Word)} (hF : Fifo rows ins (0 : Nat) [[]] [] ra) (hI : FInv rows ins (0 : Nat) [] ra) (hFb : Fifo rowsb insb (0 : Nat) [[]] [] rb) (hIb : FInv rowsb insb (0 : Nat) [] rb)
    (hl : ra.length ≤ 64) (hlb : rb.length ≤ 64) (hi : ins = insb) (hC : Zbs rows ins (ordR ra) = Zbs rowsb insb (ordR rb)) : ra.map (·.2) = rb.map (·.2) := by
  have h1 := Zky hm hF (Zfd hm hF hI) (by rw [Zdu]; exact hl)
  have h2 := Zky hmb hFb (Zfd hmb hFb hIb) (by rw [Zdu]; exact hlb)
  subst hi
  rw [← hC] at h2
  have := Fifo.det h1.1 h2.1
  have h3 := congrArg (List.map (·.2)) this
  unfold mapR at h3
  simpa [List.map_map, Function.comp_def] using h3
theorem Zzg (hm : OKM ins outs rows) (hmb : OKM insb outsb rowsb) {ra rb : List (Nat × Word)} (hF : Fifo rows ins (0 : Nat) [[]] [] ra) (hI : FInv rows ins (0 : Nat) [] ra) (hFb : Fifo rowsb insb (0 : Nat) [[]] [] rb) (hIb : FInv rowsb insb (0 : Nat) [] rb)
    (hw : ra.map (·.2) = rb.map (·.2)) {s : Nat} (hs : s < rows.length) : (isoL rows.length (ordR ra) (ordR rb) (ordR ra).length).getD s 0 = match lk ra s with | none => -1 | some w => aft rowsb (0 : Nat) w := by
  have hC := Zfd hm hF hI
  have hd := hI.good.nodup
  have hlen : ra.length = rb.length := by have := congrArg List.length hw; simpa using this
  rw [Zsf hC.nd hC.rng _ (Nat.le_refl _) s hs]
  cases hlk : lk ra s with
  | none =>
    rw [if_neg]
    rintro ⟨i, h1, h2⟩
    rw [Zdu] at h1
    rw [Ziy _ _ h1] at h2
    have hx : ra.getD i (0, []) ∈ ra := by rw [List.getD_eq_getElem?_getD, List.getElem?_eq_getElem h1]; exact List.getElem_mem h1
    have := Zdb hd hx
    have e : (ra.getD i (0, [])).1 = s := by omega
    rw [e, hlk] at this; cases this
  | some w =>
    have hmem : s ∈ ra.map (·.1) := (Zfi ra s).mp (by rw [hlk]; rfl)
    obtain ⟨x, hx, rfl⟩ := List.mem_map.mp hmem
    obtain ⟨i, hi, hxi⟩ := List.getElem_of_mem hx
    have hg : ra.getD i (0, []) = x := by rw [List.getD_eq_getElem?_getD, List.getElem?_eq_getElem hi, hxi]; rfl
    have hp : pos (ordR ra) (x.1 : Int) = i := by
      have := Zlr hC.nd (k := i) (by rw [Zdu]; exact hi)
      rw [Ziy _ _ hi, hg] at this; exact this
    rw [if_pos ⟨i, by rw [Zdu]; exact hi, by rw [Ziy _ _ hi, hg]⟩, hp, Int.toNat_natCast, Ziy _ _ (by omega)]
    have hb : i < rb.length := by omega
    have e2 : (rb.getD i (0, [])).2 = x.2 := by
      have := congrArg (fun l : List Word => l[i]?) hw
      simp only [List.getElem?_map, List.getElem?_eq_getElem hi, List.getElem?_eq_getElem hb, Option.map_some, Option.some.injEq] at this
      rw [List.getD_eq_getElem?_getD, List.getElem?_eq_getElem hb]
      simp only [Option.getD_some]
      rw [← this, hxi]
    have hxb : rb.getD i (0, []) ∈ rb := by rw [List.getD_eq_getElem?_getD, List.getElem?_eq_getElem hb]; exact List.getElem_mem hb
    have ha := (hIb.at_ _ _ (Zdb hIb.good.nodup hxb)).1
    have hw2 : w = x.2 := by
      have := Zdb hd hx
      rw [hlk] at this; exact Option.some.inj this
    subst hw2
    rw [e2] at ha
    exact ha.symm
end
def sq1 : AC → AC | .seq a _ => a | c => c
def sq2 : AC → AC | .seq _ b => b | c => c
end Go.AM
