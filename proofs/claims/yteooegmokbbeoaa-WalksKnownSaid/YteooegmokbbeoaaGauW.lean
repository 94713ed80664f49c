/- The operations that make objects, or write. -/
import Derived.Test.YteooegmokbbeoaaGauM
set_option linter.unusedSimpArgs false
set_option linter.unusedVariables false
namespace Go.AM
open Go
variable {C : AC → Code → Prop} {B : Base} {X : Cx} {H H' : Heap} {w w' : World} {P : Program} {fm : Nat → Nat}

/-- Numbers from g on, n of them, have not been given out. -/
def Zgh (X : Cx) (g n : Nat) : Prop := ∀ i k, X.iss i k → k < g ∨ g + n ≤ k
def Iss (X Y : Cx) (g n : Nat) : Prop := ∀ i k, Y.iss i k → X.iss i k ∨ (g ≤ k ∧ k < g + n)
def Zcv (X : Cx) (us : List V) (f : Nat → Option Value) : Prop := ∀ (j : Nat) (v : V), us[j]? = some v → one v = true ∧ ∃ x, f j = some x ∧ RV X v x
theorem Zcv.weak {Y : Cx} {us : List V} {f : Nat → Option Value} (h : Zcv X us f) (hXY : X.le Y) : Zcv Y us f := fun j v hv => by
  obtain ⟨h1, x, h2, h3⟩ := h j v hv
  exact ⟨h1, x, h2, h3.weak hXY⟩
theorem Zib {id g : Nat} {m : Option (Nat × Nat × Nat)} {n : Nat} (hn : 1 ≤ n) : Iss X (X.put id g m H) g n := fun i k h => by
  rcases h with h | ⟨_, rfl⟩
  · exact .inl h
  · exact .inr ⟨Nat.le_refl _, by omega⟩

theorem Rel.putCells {id g b base : Nat} {cs : List V} {kd : Kd} {c : Array Value} {t : TypeId} (h : Rel C B X H w) (hid : id < H.length)
    (hfresh : (∀ k, X.iss id k → k ≠ g) ∨ (X.μ id = some (b, base, c.size) ∧ ∃ o0, H[id]? = some (some (g, o0)) ∧ lkO o0 = .cells cs.length))
    (hw' : w'.heap[b]? = some (.cells c t (0, 0))) (hoth : ∀ k, k ≠ b → k < w.heap.size → w'.heap[k]? = w.heap[k]?)
    (hb : X.F b = none ∧ B.w0.heap.size ≤ b ∧ ∀ id' g' o' n' k', id' ≠ id → H[id']? = some (some (g', o')) → X.μ id' = some (b, n', k') → False)
    (hsize : w.heap.size ≤ w'.heap.size) (hos : w'.os = w.os) (htape : w'.tape = w.tape) (hout : w'.output = w.output)
    (hkd : kd ≠ .nilo ∧ kd ≠ .froz) (hle : base + cs.length ≤ c.size) (hc : Zcv X cs fun j => c[base + j]?) :
    X.le (X.put id g (some (b, base, c.size)) (H.set id (some (g, .cells cs kd)))) ∧ Rel C B (X.put id g (some (b, base, c.size)) (H.set id (some (g, .cells cs kd)))) (H.set id (some (g, .cells cs kd))) w' := by
  refine h.set hid (o := .cells cs kd) hfresh (fun k hk hlt => hoth k (fun e => hk base c.size (by rw [e])) hlt) (fun k n m e => ?_) hsize hos htape hout fun hle' => ?_
  · cases e; exact hb
  · unfold RO
    simp only [Cx.put, if_true]
    refine ⟨hkd.1, c, t, hw', rfl, hle, fun i v hv => ?_, .inr ⟨hkd.2, hb.1⟩⟩
    obtain ⟨h1, x, h2, h3⟩ := hc i v hv
    exact ⟨h1, x, h2, h3.weak hle'⟩

theorem Rel.noBlock {id g n m : Nat} {o : O} (h : Rel C B X H w) (hl : H[id]? = some (some (g, o))) (hm : X.μ id = some (w.heap.size, n, m)) : False := by
  obtain ⟨ob, hb⟩ := ((h.obj id g o hl).2).block hm
  have := (Array.getElem?_eq_some_iff.1 hb).1
  omega
theorem Rel.noF (h : Rel C B X H w) : X.F w.heap.size = none := by
  cases hF : X.F w.heap.size with
  | none => rfl
  | some o =>
    have := (Array.getElem?_eq_some_iff.1 (h.frz _ _ hF)).1
    omega
/-- A new block of cells. -/
theorem Rel.newCells {id g : Nat} {cs : List V} {kd : Kd} {c : Array Value} {t : TypeId} (h : Rel C B X H w) (hid : id < H.length) (hfresh : ∀ k, X.iss id k → k ≠ g)
    (hkd : kd ≠ .nilo ∧ kd ≠ .froz) (hle : cs.length ≤ c.size) (hc : Zcv X cs fun j => c[j]?) :
    X.le (X.put id g (some (w.heap.size, 0, c.size)) (H.set id (some (g, .cells cs kd)))) ∧
      Rel C B (X.put id g (some (w.heap.size, 0, c.size)) (H.set id (some (g, .cells cs kd)))) (H.set id (some (g, .cells cs kd))) (w.alloc (.cells c t)) :=
  h.putCells hid (.inl hfresh) (heap_alloc_new w _) (fun k hk hlt => heap_alloc_old w _ k hlt) ⟨h.noF, h.size, fun id' g' o' n' k' _ hl hm => h.noBlock hl hm⟩ (by simp) rfl rfl rfl hkd (by omega) (fun j v hv => by simpa using hc j v hv)
theorem Zgh.ne {g n : Nat} (h : Zgh X g n) (hn : 1 ≤ n) {id : Nat} : ∀ k, X.iss id k → k ≠ g := fun k hk e => by
  subst e
  rcases h id k hk with h | h <;> omega

/-- A pointer to a new object. -/
theorem Zxy {id g tot : Nat} {cs : List V} {kd : Kd} {b : Nat} (hid : id < H.length) : RV (X.put id g (some (b, 0, tot)) (H.set id (some (g, .cells cs kd)))) (.ptr id g 0) (.pointer (some ⟨b, 0, none⟩)) :=
  .ptr id g 0 _ (.inr ⟨rfl, rfl⟩) fun n _ => ⟨b, 0, tot, by simp [Cx.put], rfl⟩
/-- A slice over a new object. -/
theorem Zzk {id g tot sz len c' : Nat} {cs : List V} {kd : Kd} {b : Nat} {cap : Option Nat} (hid : id < H.length) (hz : 0 < sz) (hlc : len ≤ c') (hc : ∀ c, cap = some c → c' = c) (hle : c' * sz ≤ tot) (hn : len * sz ≤ cs.length)
    (h1 : ∀ c, cap = some c → c * sz ≤ cs.length) (h2 : cap = none → cs.length ≤ c' * sz) : RV (X.put id g (some (b, 0, tot)) (H.set id (some (g, .cells cs kd)))) (.sl id g sz 0 len cap) (.slice (some ⟨b, 0, none⟩) len c') := by
  refine .sl id g sz 0 len cap _ c' (.inr ⟨rfl, rfl⟩) hz hlc hc (fun _ => rfl) fun m hm => ?_
  have hm' : lvH (H.set id (some (g, .cells cs kd))) id g = some (.cells m) := hm
  obtain ⟨o, ho, hk⟩ := Zbl.1 hm'
  rw [Zeh hid] at ho
  simp only [if_true, Option.some.injEq, Prod.mk.injEq] at ho
  obtain ⟨_, rfl⟩ := ho
  simp only [lkO, LK.cells.injEq] at hk
  subst hk
  unfold SlR
  simp only [Cx.put, if_true]
  left
  exact ⟨trivial, by omega, by omega, fun c hcc => by have := h1 c hcc; omega, fun hcc => by have := h2 hcc; omega⟩

/-! ### Nil slices of one's own -/
theorem Zko : ∀ (os : List (Nat × Nat)) (X : Cx) (H : Heap) (id g : Nat) (cs : List V) (f : Nat → Option Value) (k : List V → Plan) {v : V} {r ws : List Nat}, Rel C B X H w → Zgh X g os.length → Zcv X cs f →
    runP (ownL os id g cs k) H = some (v, H', r, ws) → ∃ (Y : Cx) (H1 : Heap) (cs' : List V) (r' ws' : List Nat), X.le Y ∧ Rel C B Y H1 w ∧ Zcv Y cs' f ∧ cs'.length = cs.length ∧ Iss X Y g os.length ∧ H1.length = H.length ∧ runP (k cs') H1 = some (v, H', r', ws')
  | [], X, H, id, g, cs, f, k, v, r, ws, h, hf, hc, hp => ⟨X, H, cs, r, ws, Cx.le.refl X, h, hc, rfl, fun _ _ hi => .inl hi, rfl, hp⟩
  | (j, sz) :: os, X, H, id, g, cs, f, k, v, r, ws, h, hf, hc, hp => by
    unfold ownL at hp
    split at hp
    · rename_i hj
      obtain ⟨hsz, hp⟩ := Zbw hp
      obtain ⟨ws1, hid, hp, _⟩ := Zcj hp
      obtain ⟨hle, hrel⟩ := h.set (g := g) (o := .cells [] .nilo) (m := none) (w' := w) hid (.inl (hf.ne (by simp))) (fun _ _ _ => rfl) (fun _ _ _ e => by cases e) (Nat.le_refl _) rfl rfl rfl
        (fun _ => by unfold RO; simp [Cx.put])
      have hfr : Zgh (X.put id g none (H.set id (some (g, .cells [] .nilo)))) (g + 1) os.length := fun i q hq => by
        rcases hq with hq | ⟨_, rfl⟩
        · have := hf i q hq; simp at this; omega
        · left; omega
      have hcs : Zcv (X.put id g none (H.set id (some (g, .cells [] .nilo)))) (cs.set j (.sl id g sz 0 0 none)) f := fun i u hu => by
        rw [List.getElem?_set] at hu
        by_cases e : j = i
        · subst e
          have hjl : j < cs.length := (List.getElem?_eq_some_iff.1 hj).1
          simp only [hjl, if_true, Option.some.injEq] at hu
          subst hu
          obtain ⟨_, x, hx, hr⟩ := hc j _ hj
          cases hr
          refine ⟨rfl, _, hx, .sl id g sz 0 0 none _ 0 (.inr ⟨rfl, rfl⟩) hsz (Nat.le_refl _) (by simp) (by omega) fun m hm => ?_⟩
          have hm' : lvH (H.set id (some (g, .cells [] .nilo))) id g = some (.cells m) := hm
          obtain ⟨o, ho, hk⟩ := Zbl.1 hm'
          rw [Zeh hid] at ho
          simp only [if_true, Option.some.injEq, Prod.mk.injEq] at ho
          obtain ⟨_, rfl⟩ := ho
          simp only [lkO, List.length_nil, LK.cells.injEq] at hk
          subst hk
          unfold SlR
          simp [Cx.put]
        · rw [if_neg e] at hu
          obtain ⟨h1, x, h2, h3⟩ := hc i u hu
          exact ⟨h1, x, h2, h3.weak hle⟩
      obtain ⟨Y, H1, cs', r', ws', a1, a2, a3, a4, a5, a6, a7⟩ := Zko os _ _ _ _ _ f k hrel hfr hcs hp
      refine ⟨Y, H1, cs', r', ws', hle.trans a1, a2, a3, by simpa using a4, fun i q hq => ?_, by simpa using a6, a7⟩
      rcases a5 i q hq with (hq | ⟨_, rfl⟩) | hq
      · exact .inl hq
      · exact .inr ⟨Nat.le_refl _, by simp⟩
      · right; simp; omega
    · exact (Zaw hp).elim

theorem Ziq {v : V} {x : Value} (h : RV X v x) (hw : Zcc v = true) : Zcv X (Zbj v) (fun j => x.cells[j]?) ∧ x.cells.size = (Zbj v).length := by
  obtain ⟨h1, h2, h3⟩ := h.cells hw
  refine ⟨fun j u hu => ⟨h2 j u hu, ?_⟩, h1⟩
  have hlt : j < x.cells.size := by rw [h1]; exact (List.getElem?_eq_some_iff.1 hu).1
  exact ⟨x.cells[j], Array.getElem?_eq_getElem hlt, h3 j u _ hu (Array.getElem?_eq_getElem hlt)⟩

theorem Yfs {ci : Bool → Nat → List V → Option (V × Option (List V × Kd))} {own : List (Nat × Nat)} {id g n : Nat} {y : Opd} {av v : V} {x : Value} {t : TypeId} {r ws : List Nat}
    (h : Rel C B X H w) (hf : Zgh X g n) (hn : 1 ≤ n) (ha : RV X av x) (hp : runP (Zaz ci own id g (.box y) [av]) H = some (v, H', r, ws)) : SimR C B X v H' g n ((Instr.box t x).run P w) := by
  unfold Zaz at hp
  simp only at hp
  obtain ⟨hw, hp⟩ := Zbw hp
  obtain ⟨ws1, hid, hp, _⟩ := Zcj hp
  obtain ⟨rfl, rfl⟩ := Zau hp
  obtain ⟨hc, hs⟩ := Ziq ha hw
  obtain ⟨h1, h2⟩ := h.newCells (t := t) (kd := .fixed) hid (hf.ne hn) ⟨by simp, by simp⟩ (Nat.le_of_eq hs.symm) hc
  exact ⟨_, _, _, rfl, h1, h2, Zxy hid, Zib hn⟩

theorem Zxa {ci : Bool → Nat → List V → Option (V × Option (List V × Kd))} {own : List (Nat × Nat)} {id g n : Nat} {z : List V} {v : V} {t : TypeId} {old : Value} {r ws : List Nat}
    (h : Rel C B X H w) (hf : Zgh X g n) (hn : 1 + own.length ≤ n) (hz : zB P t z = true) (hp : runP (Zaz ci own id g (.alloc z) []) H = some (v, H', r, ws)) : SimR C B X v H' g n ((Instr.alloc t true old).run P w) := by
  unfold Zaz at hp
  simp only at hp
  obtain ⟨i, zx, hi, hzx, hzl, hrun⟩ := Zvw hz
  obtain ⟨⟨hl1, hl2⟩, hl3, _⟩ := Zoc (X := X) hzl
  have hc : Zcv X z (fun j => zx.cells[j]?) := fun j u hu => by
    have hlt : j < zx.cells.size := by have := (List.getElem?_eq_some_iff.1 hu).1; simp at hl1; omega
    exact ⟨hl3 u (List.mem_of_getElem? hu), _, Array.getElem?_eq_getElem hlt, hl2 j u _ hu (by rw [Array.getElem?_toList]; exact Array.getElem?_eq_getElem hlt)⟩
  obtain ⟨Y, H1, cs', r', ws', a1, a2, a3, a4, a5, a6, hp⟩ := Zko own X H (id + 1) (g + 1) z _ _ h (fun i k hk => by have := hf i k hk; omega) hc hp
  obtain ⟨ws1, hid, hp, _⟩ := Zcj hp
  obtain ⟨rfl, rfl⟩ := Zau hp
  have hfr : ∀ k, Y.iss id k → k ≠ g := fun k hk e => by
    subst e
    rcases a5 id k hk with hk | hk
    · have := hf id k hk; omega
    · omega
  obtain ⟨h1, h2⟩ := a2.newCells (t := t) (kd := .fixed) hid hfr ⟨by simp, by simp⟩ (by rw [a4]; simp at hl1; omega) a3
  refine ⟨_, _, _, ?_, a1.trans h1, h2, Zxy hid, fun i k hk => ?_⟩
  · simp only [Instr.alloc, Sem.run_bind, hrun, Result.andThen_ok]
    rfl
  · rcases hk with hk | ⟨_, rfl⟩
    · rcases a5 i k hk with hk | hk
      · exact .inl hk
      · right; omega
    · right; omega

/-- Parts put into a row of cells. -/
theorem Zej {cs xs : List V} {off : Nat} (h : off + xs.length ≤ cs.length) : (Zbf cs off xs).length = cs.length := by
  unfold Zbf
  simp only [List.length_append, List.length_take, List.length_drop]
  omega
theorem Zmo {cs xs : List V} {off j : Nat} (h : off + xs.length ≤ cs.length) : (Zbf cs off xs)[j]? = if off ≤ j ∧ j < off + xs.length then xs[j - off]? else cs[j]? := by
  unfold Zbf
  by_cases h1 : j < off
  · rw [List.getElem?_append_left (by simp; omega), List.getElem?_append_left (by simp; omega), List.getElem?_take]
    simp [h1, show ¬ (off ≤ j ∧ j < off + xs.length) by omega]
  · by_cases h2 : j < off + xs.length
    · rw [List.getElem?_append_left (by simp; omega), List.getElem?_append_right (by simp; omega)]
      simp only [List.length_take, show min off cs.length = off by omega]
      rw [if_pos ⟨by omega, h2⟩]
    · rw [List.getElem?_append_right (by simp; omega), if_neg (by omega), List.getElem?_drop]
      congr 1
      simp only [List.length_append, List.length_take]
      omega

theorem Zps (off : Nat) : ∀ (l : List Value) (i : Nat) (cs : Array Value), (∀ j, ((l.zipIdx i).foldl (fun cs (c, j) => cs.setIfInBounds (off + j) c) cs)[j]? = if off + i ≤ j ∧ j < off + i + l.length ∧ j < cs.size then l[j - (off + i)]? else cs[j]?) ∧
    ((l.zipIdx i).foldl (fun cs (c, j) => cs.setIfInBounds (off + j) c) cs).size = cs.size
  | [], i, cs => by
    refine ⟨fun j => ?_, rfl⟩
    simp only [List.zipIdx_nil, List.foldl_nil, List.length_nil]
    rw [if_neg (by omega)]
  | c :: l, i, cs => by
    simp only [List.zipIdx_cons, List.foldl_cons]
    obtain ⟨h1, h2⟩ := Zps off l (i + 1) (cs.setIfInBounds (off + i) c)
    refine ⟨fun j => ?_, by rw [h2]; simp⟩
    rw [h1 j]
    simp only [Array.size_setIfInBounds, List.length_cons]
    by_cases hj : j = off + i
    · subst hj
      rw [if_neg (by omega)]
      by_cases hs : off + i < cs.size
      · rw [if_pos (by omega)]
        simp [Array.getElem?_setIfInBounds, hs]
      · rw [if_neg (by omega)]
        simp [Array.getElem?_setIfInBounds, hs]
    · rw [Array.getElem?_setIfInBounds_ne (by omega)]
      by_cases hr : off + (i + 1) ≤ j ∧ j < off + (i + 1) + l.length ∧ j < cs.size
      · rw [if_pos hr, if_pos (by omega)]
        obtain ⟨q, hq⟩ : ∃ q, j - (off + i) = q + 1 := ⟨j - (off + i) - 1, by omega⟩
        rw [hq, List.getElem?_cons_succ]
        congr 1
        omega
      · rw [if_neg hr, if_neg (by omega)]

theorem Zof {place : Nat → Option (Nat × Nat)} : ∀ (l : List (Nat × List V)) (qs : List (Nat × Value)) (z : List V) (xs : Array Value) {cs : List V}, Zcv X z (fun j => xs[j]?) → xs.size = z.length →
    qs.length = l.length → (∀ (j : Nat) (p : Nat × List V) (q : Nat × Value), l[j]? = some p → qs[j]? = some q → place q.1 = some (p.1, p.2.length) ∧ q.2.cells.size = p.2.length ∧ Zcv X p.2 (fun i => q.2.cells[i]?)) →
    Zjh z l = some cs → ∃ c, Instr.fill place xs qs = some c ∧ c.size = cs.length ∧ cs.length = z.length ∧ Zcv X cs (fun j => c[j]?)
  | [], qs, z, xs, cs, hz, hs, hl, _, h => by
    simp at hl
    subst hl
    simp only [Zjh, Option.some.injEq] at h
    subst h
    exact ⟨xs, rfl, hs, rfl, hz⟩
  | (off, us) :: l, qs, z, xs, cs, hz, hs, hl, hq, h => by
    cases qs with
    | nil => simp at hl
    | cons q qs =>
      obtain ⟨i, y⟩ := q
      simp only [Zjh] at h
      split at h
      · rename_i hle
        obtain ⟨hp, hy, hc⟩ := hq 0 (off, us) (i, y) rfl rfl
        simp only at hp hy hc hle
        obtain ⟨g1, g2⟩ := Zps off y.cells.toList 0 xs
        have hzi : (y.cells.toList.zipIdx).foldl (fun cs (c, j) => cs.setIfInBounds (off + j) c) xs = (y.cells.zipIdx).foldl (fun cs (c, j) => cs.setIfInBounds (off + j) c) xs := by
          rw [← Array.foldl_toList, Array.toList_zipIdx]
        rw [hzi] at g1 g2
        obtain ⟨c, r1, r2, r3, r4⟩ := Zof (place := place) l qs (Zbf z off us) _ (by
          intro j u hu
          rw [Zmo hle] at hu
          show _ ∧ ∃ x, ((y.cells.zipIdx).foldl (fun cs (c, j) => cs.setIfInBounds (off + j) c) xs)[j]? = some x ∧ _
          rw [g1 j]
          by_cases hj : off ≤ j ∧ j < off + us.length
          · rw [if_pos hj] at hu
            rw [if_pos (by simp; omega)]
            obtain ⟨q1, x, q2, q3⟩ := hc _ _ hu
            exact ⟨q1, x, by simpa using q2, q3⟩
          · rw [if_neg hj] at hu
            rw [if_neg (by simp; omega)]
            exact hz j u hu) (by rw [g2, Zej hle, hs]) (by simpa using hl) (fun j p q hp hq' => hq (j + 1) p q (by simpa using hp) (by simpa using hq')) h
        refine ⟨c, ?_, r2, by rw [r3, Zej hle], r4⟩
        simp only [Instr.fill, hp]
        rw [if_neg (by simp; omega)]
        exact r1
      · cases h

/-- The parts' values, from the operands'. -/
theorem Zog : ∀ {vals : List V} {ps : List (Nat × Nat × Opd)} {l : List (Nat × List V)} {xs : List Value}, RL X vals xs → Zez vals ps = some l →
    l.length = ps.length ∧ xs.length = ps.length ∧ ∀ (j : Nat) (p : Nat × List V) (q : Nat × Nat × Opd) (y : Value), l[j]? = some p → ps[j]? = some q → xs[j]? = some y → p.1 = q.1 ∧ p.2.length = q.2.1 ∧ y.cells.size = p.2.length ∧ Zcv X p.2 (fun i => y.cells[i]?)
  | [], [], l, xs, h, hp => by
    simp only [Zez, Option.some.injEq] at hp
    subst hp
    refine ⟨rfl, by simpa using h.1, fun j p q y hp => by simp at hp⟩
  | [], _ :: _, l, xs, h, hp => by simp [Zez] at hp
  | _ :: _, [], l, xs, h, hp => by simp [Zez] at hp
  | v :: vs, (off, n, o) :: ps, l, xs, h, hp => by
    simp only [Zez] at hp
    split at hp
    · rename_i hc
      cases hq : Zez vs ps with
      | none => rw [hq] at hp; simp at hp
      | some l' =>
        rw [hq] at hp
        simp only [Option.map_some, Option.some.injEq] at hp
        subst hp
        cases xs with
        | nil => have := h.1; simp at this
        | cons x xs =>
          have hx := h.2 0 v x rfl rfl
          obtain ⟨i1, i2, i3⟩ := Zog (xs := xs) ⟨by have := h.1; simpa using this, fun i u y hu hy => h.2 (i + 1) u y (by simpa using hu) (by simpa using hy)⟩ hq
          refine ⟨by simp [i1], by simp [i2], fun j p q y hp hq hy => ?_⟩
          cases j with
          | zero =>
            simp at hp hq hy
            subst hp; subst hq; subst hy
            obtain ⟨c1, c2⟩ := Ziq hx hc.1
            exact ⟨rfl, hc.2, c2, c1⟩
          | succ j => exact i3 j p q y (by simpa using hp) (by simpa using hq) (by simpa using hy)
    · cases hp

theorem Zms : ∀ (fs : List Field), fs.all (fun f => (P.info? f.type).isSome) = true → (fs.mapM (m := Sem) fun f => do pure (f.offset, ← sizeOf f.type)).run P w = .ok (fs.map fun f => (f.offset, P.cellsOf f.type)) w
  | [], _ => by simp
  | f :: fs, h => by
    simp only [List.all_cons, Bool.and_eq_true] at h
    obtain ⟨i, hi⟩ := Option.isSome_iff_exists.1 h.1
    have ih := Zms fs h.2
    simp only [List.mapM_cons, Sem.run_bind, Zbh (show szB P f.type i.size = true by simp [szB, hi]), Result.andThen_ok, Sem.run_pure, ih, List.map_cons, Program.cellsOf, hi, Option.map_some, Option.getD_some]
theorem Zqx {t : TypeId} {n : Nat} (h : szB P t n = true) : P.cellsOf t = n := by
  obtain ⟨i, hi, hs⟩ := Znk h
  simp [Program.cellsOf, hi, hs]

theorem Zqh {fs : Array Field} : ∀ {ps : List (Nat × Nat × Opd)} {qs : List (Nat × Operand)}, Zlk P fm fs ps qs = true → ps.length = qs.length ∧ ∀ (j : Nat) (p : Nat × Nat × Opd) (q : Nat × Operand), ps[j]? = some p → qs[j]? = some q →
    ∃ f, fs[q.1]? = some f ∧ f.offset = p.1 ∧ P.cellsOf f.type = p.2.1 ∧ chkO fm p.2.2 q.2 = true
  | [], [], _ => ⟨rfl, fun j p q h => by simp at h⟩
  | [], _ :: _, h => by simp [Zlk] at h
  | _ :: _, [], h => by simp [Zlk] at h
  | (off, n, x) :: ps, (i, y) :: qs, h => by
    simp only [Zlk, Bool.and_eq_true] at h
    obtain ⟨⟨h1, h2⟩, h3⟩ := h
    obtain ⟨i1, i2⟩ := Zqh h3
    refine ⟨by simp [i1], fun j p q hp hq => ?_⟩
    cases j with
    | zero =>
      simp at hp hq
      subst hp; subst hq
      split at h1
      · rename_i f hf
        simp only [Bool.and_eq_true, beq_iff_eq] at h1
        exact ⟨f, hf, h1.1, Zqx h1.2, h2⟩
      · cases h1
    | succ j => exact i2 j p q (by simpa using hp) (by simpa using hq)
theorem Zle {sz : Nat} : ∀ {ps : List (Nat × Nat × Opd)} {qs : List (Nat × Operand)}, Zjr fm sz ps qs = true → ps.length = qs.length ∧ ∀ (j : Nat) (p : Nat × Nat × Opd) (q : Nat × Operand), ps[j]? = some p → qs[j]? = some q →
    p.1 = q.1 * sz ∧ p.2.1 = sz ∧ chkO fm p.2.2 q.2 = true
  | [], [], _ => ⟨rfl, fun j p q h => by simp at h⟩
  | [], _ :: _, h => by simp [Zjr] at h
  | _ :: _, [], h => by simp [Zjr] at h
  | (off, n, x) :: ps, (i, y) :: qs, h => by
    simp only [Zjr, Bool.and_eq_true, beq_iff_eq] at h
    obtain ⟨⟨⟨h0, h1⟩, h2⟩, h3⟩ := h
    obtain ⟨i1, i2⟩ := Zle h3
    refine ⟨by simp [i1], fun j p q hp hq => ?_⟩
    cases j with
    | zero =>
      simp at hp hq
      subst hp; subst hq
      exact ⟨h0, h1, h2⟩
    | succ j => exact i2 j p q (by simpa using hp) (by simpa using hq)

theorem Zju {t : TypeId} {z : List V} (hz : zB P t z = true) : ∃ x, (∀ w, (zeroValue t).run P w = .ok x w) ∧ x.cells.size = z.length ∧ Zcv X z (fun j => x.cells[j]?) := by
  obtain ⟨i, zx, hi, hzx, hzl, hrun⟩ := Zvw hz
  obtain ⟨⟨hl1, hl2⟩, hl3, _⟩ := Zoc (X := X) hzl
  refine ⟨zx, hrun, by simpa using hl1, fun j u hu => ?_⟩
  have hlt : j < zx.cells.size := by have := (List.getElem?_eq_some_iff.1 hu).1; simp at hl1; omega
  exact ⟨hl3 u (List.mem_of_getElem? hu), _, Array.getElem?_eq_getElem hlt, hl2 j u _ hu (by rw [Array.getElem?_toList]; exact Array.getElem?_eq_getElem hlt)⟩

theorem Zyf {cs : List V} {c : Array Value} (hs : c.size = cs.length) (h : Zcv X cs (fun j => c[j]?)) : RV X (.agg cs) (.agg c) :=
  .agg cs c hs (fun i v hv => (h i v hv).1) fun i v x hv hx => by
    obtain ⟨_, y, hy, hr⟩ := h i v hv
    have hy' : c[i]? = some y := hy
    rw [hx] at hy'
    cases hy'
    exact hr

theorem Zro {ci : Bool → Nat → List V → Option (V × Option (List V × Kd))} {own : List (Nat × Nat)} {id g : Nat} (z : List V) (ps : List (Nat × Nat × Opd)) (vals : List V) :
    Zaz ci own id g (.build z ps) vals = match Zez vals ps with
    | some l => match Zjh z l with
      | some cs => .ret (.agg cs)
      | none => .no
    | none => .no := by rcases vals with _ | ⟨a, _ | ⟨b, _ | ⟨c, _ | ⟨d, l⟩⟩⟩⟩ <;> rfl
theorem Zzp {ci : Bool → Nat → List V → Option (V × Option (List V × Kd))} {own : List (Nat × Nat)} {id g n : Nat} {z : List V} {ps : List (Nat × Nat × Opd)} {vals : List V} {xs : List Value} {qs : Array (Nat × Operand)} {ρ : Operand → Value} {v : V} {t : TypeId} {r ws : List Nat}
    (h : Rel C B X H w) (hz : zB P t z = true) (hxs : xs = qs.toList.map fun q => ρ q.2)
    (ht : (∃ fs, P.underlying t = some (.struct fs) ∧ fs.toList.all (fun f => (P.info? f.type).isSome) = true ∧ Zlk P fm fs ps qs.toList = true) ∨ (∃ m e i, P.underlying t = some (.array m e) ∧ P.info? e = some i ∧ Zjr fm i.size ps qs.toList = true))
    (hv : RL X vals xs) (hp : runP (Zaz ci own id g (.build z ps) vals) H = some (v, H', r, ws)) : SimR C B X v H' g n ((Instr.build t (qs.map fun (i, x) => (i, ρ x))).run P w) := by
  rw [Zro] at hp
  split at hp
  · rename_i l hl
    split at hp
    · rename_i cs hcs
      obtain ⟨rfl, rfl⟩ := Zau hp
      obtain ⟨zx, hrun, hzs, hzc⟩ := Zju (X := X) hz
      obtain ⟨p1, p2, p3⟩ := Zog hv hl
      have hq : ∀ (place : Nat → Option (Nat × Nat)), ps.length = qs.toList.length → (∀ (j : Nat) (p : Nat × Nat × Opd) (q : Nat × Operand), ps[j]? = some p → qs.toList[j]? = some q → place q.1 = some (p.1, p.2.1)) →
          ∃ c, Instr.fill place zx.cells (qs.map fun (i, x) => (i, ρ x)).toList = some c ∧ c.size = cs.length ∧ Zcv X cs (fun j => c[j]?) := by
        intro place hlen hplace
        obtain ⟨c, c1, c2, _, c3⟩ := Zof (place := place) l ((qs.map fun (i, x) => (i, ρ x)).toList) z zx.cells hzc hzs (by simp at hlen ⊢; omega) (fun j p q hp hq => by
          have hj : j < ps.length := by have := (List.getElem?_eq_some_iff.1 hp).1; omega
          rw [Array.toList_map, List.getElem?_map, Option.map_eq_some_iff] at hq
          obtain ⟨q0, hq0, rfl⟩ := hq
          have hy : xs[j]? = some (ρ q0.2) := by rw [hxs, List.getElem?_map, hq0]; rfl
          obtain ⟨e1, e2, e3, e4⟩ := p3 j p ps[j] _ hp (List.getElem?_eq_getElem hj) hy
          have := hplace j _ q0 (List.getElem?_eq_getElem hj) hq0
          exact ⟨by rw [this, e1, e2], e3, e4⟩) hcs
        exact ⟨c, c1, c2, c3⟩
      rcases ht with ⟨fs, hu, hall, hps⟩ | ⟨m, e, i, hu, hi, hps⟩
      · obtain ⟨g1, g2⟩ := Zqh hps
        obtain ⟨c, c1, c2, c3⟩ := hq (fun k => (fs.map fun f => (f.offset, P.cellsOf f.type))[k]?) g1 (fun j p q hp hq => by
          obtain ⟨f, f1, f2, f3, _⟩ := g2 j p q hp hq
          simp [f1, f2, f3])
        have : (Instr.build t (qs.map fun (i, x) => (i, ρ x))).run P w = .ok (.agg c) w := by
          simp only [Instr.build, Sem.run_bind, hrun, Result.andThen_ok, run_underlying hu]
          rw [Array.mapM_eq_mapM_toList]
          simp only [Sem.run_map, Zms fs.toList hall, Result.andThen_ok]
          have e : (List.map (fun f : Field => (f.offset, P.cellsOf f.type)) fs.toList).toArray = fs.map fun f => (f.offset, P.cellsOf f.type) := Array.ext' (by simp)
          rw [e, c1]
          rfl
        rw [this]
        exact SimR.same h (Zyf c2 c3)
      · obtain ⟨g1, g2⟩ := Zle hps
        obtain ⟨c, c1, c2, c3⟩ := hq (fun k => some (k * i.size, i.size)) g1 (fun j p q hp hq => by
          obtain ⟨f1, f2, _⟩ := g2 j p q hp hq
          rw [f1, f2])
        have : (Instr.build t (qs.map fun (i, x) => (i, ρ x))).run P w = .ok (.agg c) w := by
          simp only [Instr.build, Sem.run_bind, hrun, Result.andThen_ok, run_underlying hu, Zbh (show szB P e i.size = true by simp [szB, hi])]
          rw [c1]
          rfl
        rw [this]
        exact SimR.same h (Zyf c2 c3)
    · exact (Zaw hp).elim
  · exact (Zaw hp).elim

/-! ### Rows of zero values -/
theorem Zfn (n : Nat) (z : List V) : (repl n z).length = n * z.length := by simp [repl]
theorem Zti : ∀ {n : Nat} {z : List V} {j : Nat} {v : V}, (repl n z)[j]? = some v → j < n * z.length ∧ z[j % z.length]? = some v
  | 0, z, j, v, h => by simp [repl] at h
  | n + 1, z, j, v, h => by
    simp only [repl, List.replicate_succ, List.flatten_cons] at h
    by_cases hj : j < z.length
    · rw [List.getElem?_append_left hj] at h
      rw [Nat.mod_eq_of_lt hj]
      exact ⟨by rw [Nat.add_mul]; omega, h⟩
    · rw [List.getElem?_append_right (by omega)] at h
      obtain ⟨h1, h2⟩ := Zti (n := n) (z := z) h
      refine ⟨by rw [Nat.add_mul]; omega, ?_⟩
      rw [← h2]
      congr 1
      exact Nat.mod_eq_sub_mod (by omega)
theorem Zlj {z : List V} {zx : Array Value} {n : Nat} (hs : zx.size = z.length) (h : Zcv X z (fun j => zx[j]?)) (hz : 0 < z.length) :
    Zcv X (repl n z) (fun j => ((Array.range (n * z.length)).map (zx[· % zx.size]!))[j]?) := fun j v hv => by
  obtain ⟨h1, h2⟩ := Zti hv
  obtain ⟨q1, x, q2, q3⟩ := h _ _ h2
  refine ⟨q1, x, ?_, q3⟩
  simp only [Array.getElem?_map, Array.getElem?_range, h1, if_true, Option.map_some, Option.some.injEq]
  have q2' : zx[j % z.length]? = some x := q2
  rw [hs, getElem!_def, q2']

theorem Yhh {ci : Bool → Nat → List V → Option (V × Option (List V × Kd))} {own : List (Nat × Nat)} {id g n sz bytes : Nat} {z : List V} {y y' : Opd} {lv cv v : V} {l c : Value} {t e : TypeId} {r ws : List Nat}
    (h : Rel C B X H w) (hf : Zgh X g n) (hn : 1 ≤ n) (hu : P.underlying t = some (.slice e)) (hsz : szB P e sz = true) (hby : byB P e bytes = true) (hz : zB P e z = true) (hl : RV X lv l) (hc : RV X cv c)
    (hp : runP (Zaz ci own id g (.mks sz bytes z y y') [lv, cv]) H = some (v, H', r, ws)) : SimR C B X v H' g n ((Instr.makeSlice t l c).run P w) := by
  unfold Zaz at hp
  simp only at hp
  cases hl <;> (try exact (Zaw hp).elim)
  cases hc <;> (try exact (Zaw hp).elim)
  rename_i k1 ln k2 cn
  obtain ⟨⟨h0, h1, h2, h3, h4, h5⟩, hp⟩ := Zbw hp
  obtain ⟨ws1, hid, hp, _⟩ := Zcj hp
  obtain ⟨rfl, rfl⟩ := Zau hp
  obtain ⟨zx, hrun, hzs, hzc⟩ := Zju (X := X) hz
  obtain ⟨i, hi, hib⟩ := Ztf hby
  have hcn : cn ≤ 140737488355328 := by
    have : cn * 1 ≤ cn * bytes := Int.mul_le_mul_of_nonneg_left (by omega) (by omega)
    simp only [Zcp] at h2
    omega
  have hw : ∀ q : Int, 0 ≤ q → q ≤ 140737488355328 → IntKind.i64.wrap q = q := fun q q0 q1 => by
    unfold IntKind.wrap
    simp only [IntKind.bits, IntKind.signed]
    have : q % (2 ^ 64 : Int) = q := Int.emod_eq_of_lt q0 (by omega)
    simp only [this]
    rw [if_neg (by simp; omega)]
  have hN : (cn.toNat : Int) = cn := by omega
  subst h4
  obtain ⟨hc1, hc2⟩ := h.newCells (t := e) (kd := .fixed) (c := (Array.range (cn.toNat * z.length)).map (zx.cells[· % zx.cells.size]!)) hid (hf.ne hn) ⟨by simp, by simp⟩ (by rw [Zfn]; simp) (Zlj hzs hzc h5)
  refine ⟨_, .slice (some ⟨w.heap.size, 0, none⟩) ln.toNat cn.toNat, w.alloc (.cells ((Array.range (cn.toNat * z.length)).map (zx.cells[· % zx.cells.size]!)) e), ?_, hc1, hc2,
    Zzk hid h5 (by omega) (by simp) (by simp) (by rw [Zfn]; exact Nat.mul_le_mul_right _ (by omega)) (fun c hcc => by cases hcc; rw [Zfn]; exact Nat.le_refl _) (by simp), Zib hn⟩
  simp only [Instr.makeSlice, Sem.run_bind, run_underlying hu, Result.andThen_ok, asInt, asIntOf, Sem.run_pure, typeInfo, run_program, hi, hw ln h0 (by omega), hw cn (by omega) hcn, hib]
  have hbig : (bytes : Int) * cn ≤ 140737488355328 := by rw [Int.mul_comm]; exact h2
  rw [if_neg (by simp; omega)]
  simp only [Sem.run_bind, Sem.run_pure, Result.andThen_ok, run_askRoom, Zbh hsz]
  by_cases hzero : cn.toNat * z.length = 0
  · rw [if_pos hzero]
    have hr0 : ∀ f : Nat → Value, (Array.range 0).map f = #[] := fun f => by simp
    simp only [Sem.run_pure, Result.andThen_ok, newRow, Sem.run_bind, run_newObj_alloc, hzero, hr0]
  · rw [if_neg hzero]
    simp only [Sem.run_pure, Result.andThen_ok, newRow, Sem.run_bind, run_newObj_alloc, hrun]

theorem Zyn {ci : Bool → Nat → List V → Option (V × Option (List V × Kd))} {own : List (Nat × Nat)} {id g : Nat} (sz len : Nat) (z : List V) (ps : List (Nat × Nat × Opd)) (vals : List V) :
    Zaz ci own id g (.bsl sz len z ps) vals = match Zez vals ps with
    | some l => match Zjh (repl len z) l with
      | some cs => if z.length = sz ∧ 0 < sz ∧ len * sz ≤ 16777216 then .wr id (some (g, .cells cs .fixed)) (.ret (.sl id g sz 0 len (some len))) else .no
      | none => .no
    | none => .no := by rcases vals with _ | ⟨a, _ | ⟨b, _ | ⟨c, _ | ⟨d, l⟩⟩⟩⟩ <;> rfl
theorem Yej {ci : Bool → Nat → List V → Option (V × Option (List V × Kd))} {own : List (Nat × Nat)} {id g n sz len : Nat} {z : List V} {ps : List (Nat × Nat × Opd)} {vals : List V} {xs : List Value} {qs : Array (Nat × Operand)} {ρ : Operand → Value} {v : V} {t e : TypeId} {r ws : List Nat}
    (h : Rel C B X H w) (hf : Zgh X g n) (hn : 1 ≤ n) (hu : P.underlying t = some (.slice e)) (hsz : szB P e sz = true) (hz : zB P e z = true) (hxs : xs = qs.toList.map fun q => ρ q.2) (hps : Zjr fm sz ps qs.toList = true)
    (hv : RL X vals xs) (hp : runP (Zaz ci own id g (.bsl sz len z ps) vals) H = some (v, H', r, ws)) : SimR C B X v H' g n ((Instr.buildSlice t len (qs.map fun (i, x) => (i, ρ x))).run P w) := by
  rw [Zyn] at hp
  split at hp
  · rename_i l hl
    split at hp
    · rename_i cs hcs
      obtain ⟨⟨e1, e2, e3⟩, hp⟩ := Zbw hp
      obtain ⟨ws1, hid, hp, _⟩ := Zcj hp
      obtain ⟨rfl, rfl⟩ := Zau hp
      subst e1
      obtain ⟨zx, hrun, hzs, hzc⟩ := Zju (X := X) hz
      obtain ⟨p1, p2, p3⟩ := Zog hv hl
      obtain ⟨g1, g2⟩ := Zle hps
      have hcells := Zlj (n := len) hzs hzc e2
      obtain ⟨c, c1, c2, c4, c3⟩ := Zof (place := fun k => some (k * z.length, z.length)) l ((qs.map fun (i, x) => (i, ρ x)).toList) (repl len z) _ hcells (by rw [Zfn]; simp) (by simp at g1 ⊢; omega) (fun j p q hp hq => by
        have hj : j < ps.length := by have := (List.getElem?_eq_some_iff.1 hp).1; omega
        rw [Array.toList_map, List.getElem?_map, Option.map_eq_some_iff] at hq
        obtain ⟨q0, hq0, rfl⟩ := hq
        have hy : xs[j]? = some (ρ q0.2) := by rw [hxs, List.getElem?_map, hq0]; rfl
        obtain ⟨e1, e2, e3, e4⟩ := p3 j p ps[j] _ hp (List.getElem?_eq_getElem hj) hy
        obtain ⟨f1, f2, _⟩ := g2 j _ q0 (List.getElem?_eq_getElem hj) hq0
        exact ⟨by rw [e1, e2, f1, f2], e3, e4⟩) hcs
      obtain ⟨hc1, hc2⟩ := h.newCells (t := e) (kd := .fixed) hid (hf.ne hn) ⟨by simp, by simp⟩ (by omega) c3
      rw [Zfn] at c4
      refine ⟨_, .slice (some ⟨w.heap.size, 0, none⟩) len len, w.alloc (.cells c e), ?_, hc1, hc2, Zzk hid e2 (Nat.le_refl _) (by simp) (by omega) (by omega) (fun k hk => by cases hk; omega) (by simp), Zib hn⟩
      simp only [Instr.buildSlice, Sem.run_bind, run_underlying hu, Result.andThen_ok, Zbh hsz]
      rw [if_neg (by simp; omega)]
      have hr0 : ∀ f : Nat → Value, (Array.range 0).map f = #[] := fun f => by simp
      by_cases h0 : len * z.length = 0
      · rw [if_pos h0]
        simp only [Sem.run_bind, Sem.run_pure, Result.andThen_ok]
        have e0 : (Array.range (len * z.length)).map ((#[] : Array Value)[· % (#[] : Array Value).size]!) = (Array.range (len * z.length)).map (zx.cells[· % zx.cells.size]!) := by rw [h0, hr0, hr0]
        rw [e0, c1]
        rfl
      · rw [if_neg h0]
        simp only [Sem.run_bind, Sem.run_pure, Result.andThen_ok, hrun]
        rw [c1]
        rfl
    · exact (Zaw hp).elim
  · exact (Zaw hp).elim

theorem Zzf {ci : Bool → Nat → List V → Option (V × Option (List V × Kd))} {own : List (Nat × Nat)} {id g n : Nat} {v : V} {vals : List V} {ro : Option Opd} {rv : Option Value} {t : TypeId} {r ws : List Nat}
    (h : Rel C B X H w) (hf : Zgh X g n) (hn : 1 ≤ n) (hr : match ro, vals, rv with | none, [], none => True | some _, [u], some x => RV X u x ∧ (∃ k e, P.underlying t = some (.map k e)) | _, _, _ => False)
    (hp : runP (Zaz ci own id g (.mkm ro) vals) H = some (v, H', r, ws)) : SimR C B X v H' g n ((Instr.makeMap t rv).run P w) := by
  have fin : runP (.wr id (some (g, .map [])) (.ret (.mp id g))) H = some (v, H', r, ws) → (Instr.makeMap t rv).run P w = .ok (.map (some w.heap.size)) (w.alloc (.map #[] 0)) → SimR C B X v H' g n ((Instr.makeMap t rv).run P w) := by
    intro hp hrun
    obtain ⟨ws1, hid, hp, _⟩ := Zcj hp
    obtain ⟨rfl, rfl⟩ := Zau hp
    obtain ⟨h1, h2⟩ := h.set (g := g) (o := .map []) (m := some (w.heap.size, 0, 0)) (w' := w.alloc (.map #[] 0)) hid (.inl (hf.ne hn)) (fun b _ hlt => heap_alloc_old w _ b hlt)
      (fun b n' k e => by cases e; exact ⟨h.noF, h.size, fun id' g' o' n' k' _ hl hm => h.noBlock hl hm⟩) (by simp) rfl rfl rfl
      (fun _ => ⟨w.heap.size, 0, 0, #[], 0, by simp [Cx.put], h.noF, heap_alloc_new w _, rfl, fun i e he => by simp at he⟩)
    refine ⟨_, _, _, hrun, h1, h2, .mp id g _ (.inr ⟨rfl, rfl⟩) fun _ => ⟨0, 0, by simp [Cx.put]⟩, Zib hn⟩
  cases ro with
  | none =>
    rcases vals with _ | ⟨a, l⟩
    · cases rv with
      | none => exact fin hp rfl
      | some _ => exact hr.elim
    · simp at hr
  | some o =>
    rcases vals with _ | ⟨a, _ | ⟨b, l⟩⟩
    · simp at hr
    · cases rv with
      | none => exact hr.elim
      | some x =>
        obtain ⟨ha, k, e, hu⟩ := hr
        cases ha <;> (try exact (Zaw hp).elim)
        refine fin hp ?_
        simp [Instr.makeMap, Sem.run_bind, run_underlying hu, asInt, asIntOf]
    · simp at hr
end Go.AM
