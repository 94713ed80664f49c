/- The trimmed machine. -/
import Derived.Test.YteooegmokbbeoaaGauMb
import Derived.Test.YteooegmokbbeoaaGauId
set_option linter.unusedVariables false
set_option linter.unusedSimpArgs false
namespace Go.AM
theorem ldC_1A (a : V) (cs : List V) : ldC 1 true 0 (a :: cs) = some (.agg [a]) := by simp [ldC, cut, mkV]
section
variable {ins outs : Nat} {rows : List (List (Int × Int))}
theorem reachL_CL (hm : OKM ins outs rows) {r : List (Nat × Word)} (hF : Fifo rows ins (0 : Nat) [[]] [] r) (hI : FInv rows ins (0 : Nat) [] r) : CL rows ins (Zbo rows.length r) := by
  have hp := Zhu hI.good
  have hC := Zff hm hF hI
  have hmem : ∀ x, x ∈ Zbo rows.length r ↔ x ∈ ordR r := fun x => (hp.mem_iff).symm
  refine ⟨hp.nodup_iff.mp hC.nd, fun x hx => hC.rng x ((hmem x).mp hx), ?_, fun x hx i hi he => (hmem _).mpr (hC.clo x ((hmem x).mp hx) i hi he)⟩
  have h0 : (0 : Int) ∈ Zbo rows.length r := by
    rw [hmem]
    have := Zdf (0 : Int) (l := ordR r) (j := 0) (by have := hC.len; omega)
    rw [hC.zero] at this; exact this
  have hs : (lk r 0).isSome = true := by
    unfold Zbo at h0
    obtain ⟨t, ht, e⟩ := List.mem_map.mp h0
    have := (List.mem_filter.mp ht).2
    have e' : t = 0 := by omega
    subst e'; exact this
  have hn1 := hm.n1
  obtain ⟨n, hn⟩ : ∃ n, rows.length = n + 1 := ⟨rows.length - 1, by omega⟩
  unfold Zbo
  rw [hn, List.range_succ_eq_map]
  simp [hs]
/-! ### Rounds -/
theorem Zgc {σ : Type} (R : σ → σ → Prop) (hr : ∀ x, R x x) (ht : ∀ x y z, R x y → R y z → R x z) (f : σ → Nat → σ) (hf : ∀ s i, R s (f s i)) : ∀ n s, R s (iter f n s)
  | 0, s => hr s
  | n + 1, s => ht _ _ _ (Zgc R hr ht f hf n s) (hf _ _)
def LeB (a b : List Bool) : Prop := a.length = b.length ∧ ∀ t, a.getD t false = true → b.getD t false = true
theorem LeB.refl (a : List Bool) : LeB a a := ⟨rfl, fun _ h => h⟩
theorem LeB.trans {a b c : List Bool} (h1 : LeB a b) (h2 : LeB b c) : LeB a c := ⟨h1.1.trans h2.1, fun t h => h2.2 t (h1.2 t h)⟩
theorem Yev (a : List Bool) (i : Nat) : LeB a (a.set i true) := by
  refine ⟨by simp, fun t h => ?_⟩
  rw [List.getD_eq_getElem?_getD] at h ⊢
  rw [List.getElem?_set]
  split
  · rename_i e; subst e
    split
    · rfl
    · rename_i h2; rw [List.getElem?_eq_none (by omega)] at h; cases h
  · exact h
theorem Zmi (s : Nat) (L : List Bool) (i : Nat) : LeB L (rel1 rows s L i) := by
  unfold rel1; split
  · exact Yev _ _
  · exact LeB.refl _
theorem Zmd (L : List Bool) (s : Nat) : LeB L (relS rows ins L s) := Zgc LeB LeB.refl (fun _ _ _ => LeB.trans) _ (fun L i => Zmi s L i) _ _
theorem Zys (L : List Bool) (s : Nat) : LeB L (relR rows ins L s) := Zgc LeB LeB.refl (fun _ _ _ => LeB.trans) _ (fun L i => Zmd L i) _ _
theorem Zio {σ : Type} (R : σ → σ → Prop) (hr : ∀ x, R x x) (ht : ∀ x y z, R x y → R y z → R x z) (f : σ → Nat → σ) (hf : ∀ s i, R s (f s i)) (s : σ) : ∀ n m, m ≤ n → R (iter f m s) (iter f n s)
  | 0, m, h => by have : m = 0 := by omega
                  subst this; exact hr _
  | n + 1, m, h => by
    by_cases e : m = n + 1
    · subst e; exact hr _
    · exact ht _ _ _ (Zio R hr ht f hf s n m (by omega)) (hf _ _)
theorem Ztw {L : List Bool} {s i : Nat} (hi : i < ins) (hs : L.getD s false = true) (he : 0 ≤ (edg rows s i).1) (hb : (edg rows s i).1.toNat < L.length) : (relS rows ins L s).getD (edg rows s i).1.toNat false = true := by
  have h1 : LeB L (iter (rel1 rows s) i L) := Zgc LeB LeB.refl (fun _ _ _ => LeB.trans) _ (fun L i => Zmi s L i) _ _
  have h2 : (iter (rel1 rows s) (i + 1) L).getD (edg rows s i).1.toNat false = true := by
    simp only [iter]
    rw [rel1, if_pos ⟨h1.2 s hs, he⟩]
    have hl : (edg rows s i).1.toNat < (iter (rel1 rows s) i L).length := by rw [← h1.1]; exact hb
    simp [List.getD_eq_getElem?_getD, hl]
  exact (Zio LeB LeB.refl (fun _ _ _ => LeB.trans) _ (fun L i => Zmi s L i) L ins (i + 1) (by omega)).2 _ h2
theorem Zwx {L : List Bool} {s i k : Nat} (hsn : s < rows.length) (hi : i < ins) (hs : L.getD s false = true) (he : 0 ≤ (edg rows s i).1) (hb : (edg rows s i).1.toNat < L.length) : (relR rows ins L k).getD (edg rows s i).1.toNat false = true := by
  have h1 : LeB L (iter (relS rows ins) s L) := Zgc LeB LeB.refl (fun _ _ _ => LeB.trans) _ (fun L i => Zmd L i) _ _
  have h2 : (iter (relS rows ins) (s + 1) L).getD (edg rows s i).1.toNat false = true := by
    simp only [iter]
    exact Ztw hi (h1.2 s hs) he (by rw [← h1.1]; exact hb)
  exact (Zio LeB LeB.refl (fun _ _ _ => LeB.trans) _ (fun L i => Zmd L i) L rows.length (s + 1) (by omega)).2 _ h2
theorem Zrs (rows : List (List (Int × Int))) : ∀ (w : Word) (s j : Int), aft rows s (w ++ [j]) = (nxt rows (aft rows s w) j).1
  | [], s, j => rfl
  | a :: w, s, j => by simp only [List.cons_append, aft]; exact Zrs rows w _ j
/-- After so many rounds all states that short words Zcl are found. -/
theorem Zhe (hm : OKM ins outs rows) {f : Nat} (hf : f < rows.length) : ∀ (k : Nat) (w : Word) (t : Nat), w.length ≤ k → Wd ins w → aft rows f w = t → (iter (relR rows ins) k ((List.replicate rows.length false).set f true)).getD t false = true
  | 0, w, t, hl, hw, ha => by
    have : w = [] := List.eq_nil_of_length_eq_zero (by omega)
    subst this
    have : t = f := by simp only [aft] at ha; omega
    subst this
    simp [iter, List.getD_eq_getElem?_getD, hf]
  | k + 1, w, t, hl, hw, ha => by
    have hlen : ∀ k, (iter (relR rows ins) k ((List.replicate rows.length false).set f true)).length = rows.length := fun k => by rw [Zfg _ (fun L i => Zml L i)]; simp
    rcases List.eq_nil_or_concat w with rfl | ⟨u, i, rfl⟩
    · have := Zhe hm hf k [] t (by simp) hw ha
      exact (Zys _ k).2 t this
    · rw [List.concat_eq_append] at *
      rw [Zrs] at ha
      have hi := hw i (by simp)
      have hu : Wd ins u := fun x hx => hw x (by simp [hx])
      have hst := Zkl hm (s := (f : Int)) ⟨by omega, by omega⟩ hu
      have hn : ¬ aft rows f u < 0 := by
        intro h
        unfold nxt at ha
        rw [if_pos h] at ha
        simp at ha
      obtain ⟨s, hs⟩ : ∃ s : Nat, aft rows f u = s := ⟨(aft rows f u).toNat, by omega⟩
      have ih := Zhe hm hf k u s (by simp at hl; omega) hu hs
      rw [hs] at ha hst
      unfold nxt at ha
      rw [if_neg (by omega), Int.toNat_natCast] at ha
      have := Zwx (rows := rows) (ins := ins) (k := k) (s := s) (i := i.toNat) (by have := hst.2; omega) (by omega) ih (by omega) (by
        rw [hlen]
        rcases hm.ok s (by have := hst.2; omega) i.toNat (by omega) with e | e
        · rw [e] at ha; simp at ha
        · omega)
      rw [ha, Int.toNat_natCast] at this
      exact this
/-- A machine whose states are all Zcn is connected. -/
theorem Zpf (hm : OKM ins outs rows) (h : ∀ s, s < rows.length → ∃ w, Wd ins w ∧ w.length ≤ rows.length ∧ aft rows (0 : Nat) w = s) : ∀ s, s < rows.length → (Zcn rows ins 0).getD s false = true := by
  intro s hs
  obtain ⟨w, h1, h2, h3⟩ := h s hs
  exact Zhe hm (f := 0) (by have := hm.n1; omega) rows.length w s h2 h1 h3
/-- The states of what is Zcn, trimmed, are all Zcn. -/
theorem Zxm (hm : OKM ins outs rows) {r : List (Nat × Word)} (hI : FInv rows ins (0 : Nat) [] r) {l : List Int} (hC : CL rows ins l) (hl : l.length ≤ 64) (hlr : l.length = r.length) (hmem : ∀ x ∈ l, ∃ t : Nat, x = t ∧ (lk r t).isSome = true) : ∀ s, s < (Zcd rows ins l).length → (Zcn (Zcd rows ins l) ins 0).getD s false = true := by
  have hok := Zgo hm hC hl
  apply Zpf hok
  intro s hs
  rw [Zdk] at hs ⊢
  obtain ⟨t, ht, hsome⟩ := hmem _ (Zdf 0 hs)
  obtain ⟨w, hw⟩ := Option.isSome_iff_exists.mp hsome
  have ha := hI.at_ t w hw
  obtain ⟨ys, zs, hz⟩ := Zhr hw
  have hwl := (hI.good ys (t, w) zs hz).2.2.2
  refine ⟨w, ha.2.2, ?_, ?_⟩
  · simp only at hwl
    rw [hlr, hz]; simp; omega
  · have h0 : (0 : Int) ∈ l := by
      have := Zdf (0 : Int) (l := l) (j := 0) (by have := hC.len; omega)
      rw [hC.zero] at this; exact this
    have := (Zmv hm hC w 0 ha.2.2 (.inl h0)).1
    rw [hC.pos0] at this
    rw [Int.natCast_zero] at ha
    rw [Int.natCast_zero, this, ha.1, ← ht, Zjq hC.nd hs]
end
end Go.AM
