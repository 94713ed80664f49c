/- The operations that read, or compute: each abstract one is matched by the model's. -/
import Derived.Test.YteooegmokbbeoaaGauC
import Derived.Laws.Cells
import Derived.Laws.CopyRow
import Derived.Laws.MakeOwn
import Derived.ChangeKeysEq
import Derived.Laws.StructEq
set_option linter.unusedSimpArgs false
set_option linter.unusedVariables false
namespace Go.AM
open Go
variable {C : AC → Code → Prop} {B : Base} {X : Cx} {H H' : Heap} {w w' : World} {P : Program} {fm : Nat → Nat}

/-- The model's computation ends in a value and a world that are related to the abstract ones. -/
def SimR (C : AC → Code → Prop) (B : Base) (X : Cx) (v : V) (H' : Heap) (g n : Nat) (r : Result Value) : Prop :=
  ∃ (Y : Cx) (x : Value) (w' : World), r = .ok x w' ∧ X.le Y ∧ Rel C B Y H' w' ∧ RV Y v x ∧ (∀ i k, Y.iss i k → X.iss i k ∨ (g ≤ k ∧ k < g + n))
def SimU (C : AC → Code → Prop) (B : Base) (X : Cx) (H' : Heap) (g n : Nat) (r : Result Unit) : Prop :=
  ∃ (Y : Cx) (w' : World), r = .ok () w' ∧ X.le Y ∧ Rel C B Y H' w' ∧ (∀ i k, Y.iss i k → X.iss i k ∨ (g ≤ k ∧ k < g + n))
theorem SimR.same {v : V} {x : Value} {g n : Nat} (h : Rel C B X H w) (hv : RV X v x) : SimR C B X v H g n (.ok x w) :=
  ⟨X, x, w, rfl, Cx.le.refl X, h, hv, fun _ _ hi => .inl hi⟩

theorem Zau {v v' : V} {H H' : Heap} {r ws : List Nat} (h : runP (.ret v) H = some (v', H', r, ws)) : v' = v ∧ H' = H := by
  simp only [runP, Option.some.injEq, Prod.mk.injEq] at h
  exact ⟨h.1.symm, h.2.1.symm⟩
theorem Zch {o : Option V} {v' : V} {H H' : Heap} {r ws : List Nat} (h : runP (retO o) H = some (v', H', r, ws)) : o = some v' ∧ H' = H := by
  cases o with
  | none => simp [retO, runP] at h
  | some v => obtain ⟨rfl, rfl⟩ := Zau h; exact ⟨rfl, rfl⟩
theorem Zaw {v' : V} {H H' : Heap} {r ws : List Nat} (h : runP .no H = some (v', H', r, ws)) : False := by simp [runP] at h
theorem Zdv {id g : Nat} {k : O → Plan} {v' : V} {H H' : Heap} {r ws : List Nat} (h : runP (.rd id g k) H = some (v', H', r, ws)) :
    ∃ o r', H[id]? = some (some (g, o)) ∧ runP (k o) H = some (v', H', r', ws) ∧ r = id :: r' := by
  unfold runP at h
  split at h
  · rename_i o ho
    split at h
    · rename_i v1 H1 r1 w1 h1
      simp only [Option.some.injEq, Prod.mk.injEq] at h
      obtain ⟨rfl, rfl, rfl, rfl⟩ := h
      exact ⟨o, r1, Zco.1 ho, h1, rfl⟩
    · cases h
  · cases h
theorem Zcj {id : Nat} {o : Option (Nat × O)} {k : Plan} {v' : V} {H H' : Heap} {r ws : List Nat} (h : runP (.wr id o k) H = some (v', H', r, ws)) :
    ∃ ws', id < H.length ∧ runP k (H.set id o) = some (v', H', r, ws') ∧ ws = id :: ws' := by
  unfold runP at h
  split at h
  · rename_i hid
    split at h
    · rename_i v1 H1 r1 w1 h1
      simp only [Option.some.injEq, Prod.mk.injEq] at h
      obtain ⟨rfl, rfl, rfl, rfl⟩ := h
      exact ⟨w1, hid, h1, rfl⟩
    · cases h
  · cases h

theorem Zbw {c : Prop} [Decidable c] {p : Plan} {v' : V} {H H' : Heap} {r ws : List Nat} (h : runP (if c then p else .no) H = some (v', H', r, ws)) : c ∧ runP p H = some (v', H', r, ws) := by
  by_cases hc : c
  · rw [if_pos hc] at h; exact ⟨hc, h⟩
  · rw [if_neg hc] at h; exact (Zaw h).elim

theorem Zey (b o j : Nat) : (⟨b, o, none⟩ : Addr).add j = ⟨b, o + j, none⟩ := by unfold Addr.add; split <;> simp_all
theorem Zec {cs : List V} {off n j : Nat} {v : V} (h : (cut cs off n)[j]? = some v) : j < n ∧ cs[off + j]? = some v := by
  unfold cut at h
  rw [List.getElem?_take] at h
  split at h
  · rename_i hj
    rw [List.getElem?_drop] at h
    exact ⟨hj, h⟩
  · cases h
theorem Zbp {cs : List V} {off n : Nat} (h : off + n ≤ cs.length) : (cut cs off n).length = n := by
  unfold cut; rw [List.length_take, List.length_drop]; omega

/-- Cells that lie in the world from a place on. -/
def Lies (X : Cx) (w : World) (b q : Nat) (us : List V) : Prop := ∀ (j : Nat) (v : V), us[j]? = some v → one v = true ∧ ∃ x, w.cell? ⟨b, q + j, none⟩ = some x ∧ RV X v x
theorem Lies.weak {Y : Cx} {b q : Nat} {us : List V} (h : Lies X w b q us) (hXY : X.le Y) : Lies Y w b q us := fun j v hv => by
  obtain ⟨h1, x, h2, h3⟩ := h j v hv
  exact ⟨h1, x, h2, h3.weak hXY⟩
theorem Lies.cut {b q : Nat} {cs : List V} (h : Lies X w b q cs) (off n : Nat) : Lies X w b (q + off) (cut cs off n) := fun j v hv => by
  obtain ⟨h1, x, h2, h3⟩ := h (off + j) v (Zec hv).2
  exact ⟨h1, x, by rw [Nat.add_assoc]; exact h2, h3⟩

/-- A live object's cells lie in the world. -/
theorem Rel.lies {id g b base tot : Nat} {cs : List V} {kd : Kd} (h : Rel C B X H w) (hl : H[id]? = some (some (g, .cells cs kd))) (hm : X.μ id = some (b, base, tot)) :
    Lies X w b base cs ∧ kd ≠ .nilo ∧ ∃ c t, w.heap[b]? = some (.cells c t (0, 0)) ∧ c.size = tot ∧ base + cs.length ≤ tot ∧ ((kd = .froz ∧ X.F b = some (.cells c t (0, 0))) ∨ (kd ≠ .froz ∧ X.F b = none)) := by
  have hro := (h.obj id g _ hl).2
  unfold RO at hro
  rw [hm] at hro
  simp only at hro
  obtain ⟨h1, c, t, hb, hs, hle, hc, hf⟩ := hro
  refine ⟨fun j v hv => ?_, h1, c, t, hb, hs, hle, hf⟩
  obtain ⟨ho, x, hx, hr⟩ := hc j v hv
  exact ⟨ho, x, by simp [World.cell?, hb, hx], hr⟩
/-- A frozen row's cells lie in the world. -/
theorem Zhs {b o0 : Nat} {cells : List V} {xs : Nat → Value} (h : Rel C B X H w) (h1 : ∀ (i : Nat) (v : V), cells[i]? = some v → Zjq X.F b (o0 + i) = some (xs i) ∧ one v = true)
    (h2 : ∀ (i : Nat) (v : V), cells[i]? = some v → RV X v (xs i)) : Lies X w b o0 cells := fun j v hv => by
  obtain ⟨hc, ho⟩ := h1 j v hv
  refine ⟨ho, xs j, ?_, h2 j v hv⟩
  unfold Zjq at hc
  split at hc
  · rename_i c t fr hb
    simp [World.cell?, h.frz b _ hb, hc]
  · cases hc

theorem Zwo {n j : Nat} {f : Nat → Value} {x : Value} (h : (((List.range n).map f).toArray)[j]? = some x) : j < n ∧ x = f j := by
  simp only [List.getElem?_toArray, List.getElem?_map, List.getElem?_range] at h
  by_cases hj : j < n
  · simp [List.getElem?_range, hj] at h; exact ⟨hj, h.symm⟩
  · simp [List.getElem?_eq_none, hj] at h

/-- Loading. -/
theorem Zne {b q n : Nat} {t : TypeId} {ag : Bool} {us : List V} {v : V} (hL : Lies X w b q us) (hn : us.length = n) (hsz : szB P t n = true) (hag : agB P t ag = true) (hv : mkV ag us = some v) :
    ∃ x, (loadVar t ⟨b, q, none⟩).run P w = .ok x w ∧ RV X v x := by
  subst hn
  cases ag with
  | true =>
    simp only [mkV, if_true, Option.some.injEq] at hv
    subst hv
    let f : Nat → Value := fun j => (w.cell? ⟨b, q + j, none⟩).getD undef
    have hc : ∀ j, j < us.length → w.cell? ((⟨b, q, none⟩ : Addr).add j) = some (f j) := fun j hj => by
      rw [Zey]
      obtain ⟨_, x, hx, _⟩ := hL j us[j] (List.getElem?_eq_getElem hj)
      simp [f, hx]
    refine ⟨.agg ((List.range us.length).map f).toArray, ?_, .agg us _ (by simp) (fun i v hv => (hL i v hv).1) fun i v x hv hx => ?_⟩
    · simp only [loadVar, Sem.run_bind, Zcl hag, Result.andThen_ok, if_true, Zbh hsz, run_loadCells w _ us.length f hc, Sem.run_pure]
    · obtain ⟨_, rfl⟩ := Zwo hx
      obtain ⟨_, y, hy, hr⟩ := hL i v hv
      simpa [f, hy] using hr
  | false =>
    simp only [mkV, Bool.false_eq_true, if_false] at hv
    split at hv
    · rename_i u
      simp only [Option.some.injEq] at hv
      subst hv
      obtain ⟨_, x, hx, hr⟩ := hL 0 u rfl
      simp only [Nat.add_zero] at hx
      exact ⟨x, by simp only [loadVar, Sem.run_bind, Zcl hag, Result.andThen_ok, Bool.false_eq_true, if_false, run_load, hx], hr⟩
    · cases hv

theorem sim_ld {ci : Bool → Nat → List V → Option (V × Option (List V × Kd))} {own : List (Nat × Nat)} {id g n k : Nat} {ag : Bool} {y : Opd} {av v : V} {x : Value} {t : TypeId} {r ws : List Nat}
    (h : Rel C B X H w) (hsz : szB P t n = true) (hag : agB P t ag = true) (ha : RV X av x) (hp : runP (Zaz ci own id g (.ld n ag y) [av]) H = some (v, H', r, ws)) :
    SimR C B X v H' g k ((Instr.loadAt t x).run P w) := by
  unfold Zaz at hp
  cases ha <;> simp only at hp <;> try exact (Zaw hp).elim
  case ptr i gi off a hg hl =>
    obtain ⟨o, r', ho, hk, _⟩ := Zdv hp
    cases o <;> simp only at hk <;> try exact (Zaw hk).elim
    rename_i cs kd
    split at hk
    · rename_i hle
      obtain ⟨hv, rfl⟩ := Zch hk
      obtain ⟨b, base, tot, hm, rfl⟩ := hl cs.length (by rw [h.lv]; exact Zbl.2 ⟨_, ho, rfl⟩)
      obtain ⟨hL, _⟩ := h.lies ho hm
      obtain ⟨x, hx, hr⟩ := Zne (P := P) (hL.cut off n) (Zbp hle) hsz hag hv
      simp only [Instr.loadAt, Instr.sureAddr, Sem.run_bind, Sem.run_pure, Result.andThen_ok, hx]
      exact SimR.same h hr
    · exact (Zaw hk).elim
  case pf cells off b o0 xs hpu h1 h2 =>
    split at hp
    · rename_i hle
      obtain ⟨hv, rfl⟩ := Zch hp
      obtain ⟨x, hx, hr⟩ := Zne (P := P) ((Zhs h h1 h2).cut off n) (Zbp hle) hsz hag hv
      simp only [Instr.loadAt, Instr.sureAddr, Sem.run_bind, Sem.run_pure, Result.andThen_ok, hx]
      exact SimR.same h hr
    · exact (Zaw hp).elim

/-! ### Parts of values -/
theorem Zvk {xs : Array Value} {off n j : Nat} {x : Value} (h : (xs.extract off (off + n))[j]? = some x) : j < n ∧ xs[off + j]? = some x := by
  rw [Array.getElem?_extract] at h
  split at h
  · rename_i hj
    exact ⟨by omega, h⟩
  · cases h
theorem Zsi {t : TypeId} {n off : Nat} {ag : Bool} {cells : List V} {xs : Array Value} {v : V} (hs : xs.size = cells.length) (h1 : ∀ (i : Nat) (v : V), cells[i]? = some v → one v = true)
    (hr : ∀ (i : Nat) (v : V) (x : Value), cells[i]? = some v → xs[i]? = some x → RV X v x) (hsz : szB P t n = true) (hag : agB P t ag = true) (hle : off + n ≤ cells.length) (hv : mkV ag (cut cells off n) = some v) :
    ∃ x, (part t xs off).run P w = .ok x w ∧ RV X v x := by
  cases ag with
  | true =>
    simp only [mkV, if_true, Option.some.injEq] at hv
    subst hv
    refine ⟨.agg (xs.extract off (off + n)), ?_, .agg _ _ (by rw [Zbp hle]; simp; omega) (fun i v hv => h1 _ _ (Zec hv).2) fun i v x hv hx => hr _ _ _ (Zec hv).2 (Zvk hx).2⟩
    simp only [part, Sem.run_bind, Zcl hag, Result.andThen_ok, if_true, Zbh hsz, Sem.run_pure]
  | false =>
    simp only [mkV, Bool.false_eq_true, if_false] at hv
    split at hv
    · rename_i u hu
      simp only [Option.some.injEq] at hv
      subst hv
      have hg := (Zec (cs := cells) (off := off) (n := n) (j := 0) (v := u) (by rw [hu]; rfl)).2
      simp only [Nat.add_zero] at hg
      have hlt : off < xs.size := by rw [hs]; exact (List.getElem?_eq_some_iff.1 hg).1
      refine ⟨xs[off], ?_, hr off u _ hg (Array.getElem?_eq_getElem hlt)⟩
      simp only [part, Sem.run_bind, Zcl hag, Result.andThen_ok, Bool.false_eq_true, if_false, Array.getElem?_eq_getElem hlt, Sem.run_pure]
    · cases hv

theorem Yhu {ci : Bool → Nat → List V → Option (V × Option (List V × Kd))} {own : List (Nat × Nat)} {id g n off k : Nat} {ag : Bool} {y : Opd} {av v : V} {x : Value} {t : TypeId} {f : Nat} {fs : Array Field} {fd : Field} {r ws : List Nat}
    (h : Rel C B X H w) (hu : P.underlying t = some (.struct fs)) (hf : fs[f]? = some fd) (ho : fd.offset = off) (hsz : szB P fd.type n = true) (hag : agB P fd.type ag = true) (ha : RV X av x)
    (hp : runP (Zaz ci own id g (.fld off n ag y) [av]) H = some (v, H', r, ws)) : SimR C B X v H' g k ((Instr.field t x f).run P w) := by
  unfold Zaz at hp
  cases ha <;> simp only at hp <;> try exact (Zaw hp).elim
  case agg cells xs hs h1 hr =>
    split at hp
    · rename_i hle
      obtain ⟨hv, rfl⟩ := Zch hp
      obtain ⟨x, hx, hrx⟩ := Zsi (P := P) (w := w) hs h1 hr hsz hag hle hv
      simp only [Instr.field, Sem.run_bind, run_underlying hu, Result.andThen_ok, hf, asAgg, Sem.run_pure, ho, hx]
      exact SimR.same h hrx
    · exact (Zaw hp).elim

theorem Yfn {ci : Bool → Nat → List V → Option (V × Option (List V × Kd))} {own : List (Nat × Nat)} {id g sz len k : Nat} {ag : Bool} {y z : Opd} {av iv v : V} {x i : Value} {t e : TypeId} {r ws : List Nat}
    (h : Rel C B X H w) (hu : P.underlying t = some (.array len e)) (hsz : szB P e sz = true) (hag : agB P e ag = true) (ha : RV X av x) (hi : RV X iv i)
    (hp : runP (Zaz ci own id g (.idx sz len ag y z) [av, iv]) H = some (v, H', r, ws)) : SimR C B X v H' g k ((Instr.index t x i).run P w) := by
  unfold Zaz at hp
  cases ha <;> simp only at hp <;> try exact (Zaw hp).elim
  case agg cells xs hs h1 hr =>
    cases hi <;> simp only at hp <;> try exact (Zaw hp).elim
    rename_i kk n
    split at hp
    · rename_i hle
      obtain ⟨hv, rfl⟩ := Zch hp
      obtain ⟨x, hx, hrx⟩ := Zsi (P := P) (w := w) hs h1 hr hsz hag hle.2.2 hv
      simp only [Instr.index, asIntOf, Sem.run_bind, Sem.run_pure, run_underlying hu, Result.andThen_ok]
      rw [if_pos ⟨hle.1, hle.2.1⟩]
      simp only [Sem.run_bind, Zbh hsz, Result.andThen_ok, hx]
      exact SimR.same h hrx
    · exact (Zaw hp).elim

/-! ### Addresses -/
theorem Yfv {ci : Bool → Nat → List V → Option (V × Option (List V × Kd))} {own : List (Nat × Nat)} {id g off k : Nat} {y : Opd} {av v : V} {x : Value} {t : TypeId} {f : Nat} {fs : Array Field} {fd : Field} {i : TypeInfo} {r ws : List Nat}
    (h : Rel C B X H w) (hu : P.underlying t = some (.struct fs)) (hf : fs[f]? = some fd) (ho : fd.offset = off) (hi : P.info? fd.type = some i) (hz : i.size ≠ 0) (ha : RV X av x)
    (hp : runP (Zaz ci own id g (.fad off y) [av]) H = some (v, H', r, ws)) : SimR C B X v H' g k ((Instr.fieldAt t x f).run P w) := by
  have hrun : ∀ a : Addr, (Instr.fieldAt t (.pointer (some a)) f).run P w = .ok (.pointer (some (a.add off))) w := fun a => by
    simp only [Instr.fieldAt, Sem.run_bind, run_underlying hu, Result.andThen_ok, hf, Instr.sureAddr, Sem.run_pure, fieldPlace, sizeOf, typeInfo, hi, run_program]
    simp [hz, ho]
  unfold Zaz at hp
  cases ha <;> simp only at hp <;> try exact (Zaw hp).elim
  case ptr i' gi o a hg hl =>
    obtain ⟨rfl, rfl⟩ := Zau hp
    rw [hrun]
    refine SimR.same h (.ptr i' gi (o + off) _ hg fun n hn => ?_)
    obtain ⟨b, base, tot, hm, rfl⟩ := hl n hn
    exact ⟨b, base, tot, hm, by rw [Zey, Nat.add_assoc]⟩
  case pf cells o b o0 xs hpu h1 h2 =>
    obtain ⟨rfl, rfl⟩ := Zau hp
    rw [hrun, Zey]
    refine SimR.same h ?_
    rw [Nat.add_assoc]
    exact .pf cells (o + off) b o0 xs hpu h1 h2

theorem boundNat {n : Int} {len : Nat} (h0 : 0 ≤ n) (h1 : n < len) : n.toNat < len := by omega
theorem Yhq {ci : Bool → Nat → List V → Option (V × Option (List V × Kd))} {own : List (Nat × Nat)} {id g sz k : Nat} {y z : Opd} {av iv v : V} {x i : Value} {t e : TypeId} {r ws : List Nat}
    (h : Rel C B X H w) (hu : P.underlying t = some (.slice e)) (hsz : szB P e sz = true) (ha : RV X av x) (hi : RV X iv i)
    (hp : runP (Zaz ci own id g (.iad sz y z) [av, iv]) H = some (v, H', r, ws)) : SimR C B X v H' g k ((Instr.indexAt t x i).run P w) := by
  have hrun : ∀ (a : Addr) (l c : Nat) (kk : IntKind) (n : Int), 0 ≤ n → n < l → (Instr.indexAt t (.slice (some a) l c) (.int kk n)).run P w = .ok (.pointer (some (a.add (n.toNat * sz)))) w := fun a l c kk n h0 h1 => by
    simp only [Instr.indexAt, asIntOf, Sem.run_bind, Sem.run_pure, run_underlying hu, Result.andThen_ok]
    rw [if_pos ⟨h0, h1⟩]
    simp only [Sem.run_bind, Zbh hsz, Result.andThen_ok, Sem.run_pure]
  unfold Zaz at hp
  cases ha <;> simp only at hp <;> try exact (Zaw hp).elim
  case arr cells sz' len cap b o0 c' xs hz hpu hn hc hlc h1 h2 =>
    cases hi <;> simp only at hp <;> try exact (Zaw hp).elim
    rename_i kk n
    split at hp
    · rename_i hle
      obtain ⟨rfl, h0, h3⟩ := hle
      obtain ⟨rfl, rfl⟩ := Zau hp
      rw [hrun _ _ _ _ _ h0 h3, Zey]
      exact SimR.same h (.pf cells _ b o0 xs hpu h1 h2)
    · exact (Zaw hp).elim
  case sl i' gi sz' off len cap a c' hg hz hlc hc ha hl =>
    cases hi <;> simp only at hp <;> try exact (Zaw hp).elim
    rename_i kk n
    split at hp
    · rename_i hle
      obtain ⟨rfl, h0, h3⟩ := hle
      obtain ⟨rfl, rfl⟩ := Zau hp
      have hs := ha (by omega)
      cases a with
      | none => simp at hs
      | some a =>
        rw [hrun _ _ _ _ _ h0 h3]
        refine SimR.same h (.ptr i' gi _ _ hg fun m hn => ?_)
        have hS := hl m hn
        unfold SlR at hS
        cases hm : X.μ i' with
        | none => rw [hm] at hS; simp at hS
        | some p =>
          obtain ⟨b, base, tot⟩ := p
          rw [hm] at hS
          simp only at hS
          rcases hS with ⟨h4, _⟩ | ⟨_, _, h5, _⟩
          · cases h4
            exact ⟨b, base, tot, rfl, by rw [Zey, Nat.add_assoc]⟩
          · omega
    · exact (Zaw hp).elim

theorem Yhv {ci : Bool → Nat → List V → Option (V × Option (List V × Kd))} {own : List (Nat × Nat)} {id g sz len k : Nat} {y z : Opd} {av iv v : V} {x i : Value} {t e : TypeId} {r ws : List Nat}
    (h : Rel C B X H w) (hu : P.underlying t = some (.array len e)) (hsz : szB P e sz = true) (ha : RV X av x) (hi : RV X iv i)
    (hp : runP (Zaz ci own id g (.iap sz len y z) [av, iv]) H = some (v, H', r, ws)) : SimR C B X v H' g k ((Instr.indexAt t x i).run P w) := by
  have hrun : ∀ (a : Addr) (kk : IntKind) (n : Int), 0 ≤ n → n < len → (Instr.indexAt t (.pointer (some a)) (.int kk n)).run P w = .ok (.pointer (some (a.add (n.toNat * sz)))) w := fun a kk n h0 h1 => by
    simp only [Instr.indexAt, asIntOf, Sem.run_bind, Sem.run_pure, run_underlying hu, Result.andThen_ok, Instr.sureAddr]
    rw [if_pos ⟨h0, h1⟩]
    simp only [Sem.run_bind, Zbh hsz, Result.andThen_ok, Sem.run_pure]
  unfold Zaz at hp
  cases ha <;> simp only at hp <;> try exact (Zaw hp).elim
  case ptr i' gi o a hg hl =>
    cases hi <;> simp only at hp <;> try exact (Zaw hp).elim
    rename_i kk n
    split at hp
    · rename_i hle
      obtain ⟨h0, h3⟩ := hle
      obtain ⟨rfl, rfl⟩ := Zau hp
      rw [hrun _ _ _ h0 h3]
      refine SimR.same h (.ptr i' gi _ _ hg fun m hn => ?_)
      obtain ⟨b, base, tot, hm, rfl⟩ := hl m hn
      exact ⟨b, base, tot, hm, by rw [Zey, Nat.add_assoc]⟩
    · exact (Zaw hp).elim
  case pf cells o b o0 xs hpu h1 h2 =>
    cases hi <;> simp only at hp <;> try exact (Zaw hp).elim
    rename_i kk n
    split at hp
    · rename_i hle
      obtain ⟨h0, h3⟩ := hle
      obtain ⟨rfl, rfl⟩ := Zau hp
      rw [hrun _ _ _ h0 h3, Zey, Nat.add_assoc]
      exact SimR.same h (.pf cells _ b o0 xs hpu h1 h2)
    · exact (Zaw hp).elim

/-! ### Lengths, capacities, pieces of tuples -/
theorem Yht {ci : Bool → Nat → List V → Option (V × Option (List V × Kd))} {own : List (Nat × Nat)} {id g j k : Nat} {y : Opd} {av v : V} {x : Value} {r ws : List Nat}
    (h : Rel C B X H w) (ha : RV X av x) (hp : runP (Zaz ci own id g (.ext y j) [av]) H = some (v, H', r, ws)) : SimR C B X v H' g k ((Instr.extract x j).run P w) := by
  unfold Zaz at hp
  cases ha <;> simp only at hp <;> try exact (Zaw hp).elim
  case tup vs xs hs hr =>
    split at hp
    · rename_i u hu
      obtain ⟨rfl, rfl⟩ := Zau hp
      have hlt : j < xs.size := by rw [hs]; exact (List.getElem?_eq_some_iff.1 hu).1
      simp only [Instr.extract, Array.getElem?_eq_getElem hlt, Sem.run_pure]
      exact SimR.same h (hr j _ _ hu (Array.getElem?_eq_getElem hlt))
    · exact (Zaw hp).elim

def lenD (m : Nat) : TypeDesc → Bool
  | .slice _ => m == 0
  | .string => m == 1
  | .map _ _ => m == 2
  | _ => false
theorem Yem {ci : Bool → Nat → List V → Option (V × Option (List V × Kd))} {own : List (Nat × Nat)} {id g k m : Nat} {y : Opd} {av v : V} {x : Value} {t ty : TypeId} {ts : Array TypeId} {d : TypeDesc} {r ws : List Nat}
    (h : Rel C B X H w) (ht : ts[0]? = some t) (hu : P.underlying t = some d) (hd : lenD m d = true) (ha : RV X av x)
    (hp : runP (Zaz ci own id g (.len m y) [av]) H = some (v, H', r, ws)) :
    SimR C B X v H' g k ((Builtin.len_ ts ty #[x]).run P w) := by
  unfold Zaz lenP at hp
  cases ha <;> simp only at hp <;> try exact (Zaw hp).elim
  all_goals replace hp := Zbw hp
  all_goals obtain ⟨e, hp⟩ := hp
  case str s =>
    subst e
    obtain ⟨rfl, rfl⟩ := Zau hp
    cases d <;> simp [lenD] at hd
    have : (Builtin.len_ ts ty #[.string s]).run P w = .ok (.int .i64 s.size) w := by simp [Builtin.len_, ht, Sem.run_bind, run_underlying hu, goInt]
    rw [this]; exact SimR.same h (.int _ _)
  case nils =>
    subst e
    obtain ⟨rfl, rfl⟩ := Zau hp
    cases d <;> simp [lenD] at hd
    have : (Builtin.len_ ts ty #[.slice none 0 0]).run P w = .ok (.int .i64 0) w := by simp [Builtin.len_, ht, Sem.run_bind, run_underlying hu, goInt]
    rw [this]; exact SimR.same h (.int _ _)
  case nilm =>
    subst e
    obtain ⟨rfl, rfl⟩ := Zau hp
    cases d <;> simp [lenD] at hd
    have : (Builtin.len_ ts ty #[.map none]).run P w = .ok (.int .i64 0) w := by simp [Builtin.len_, ht, Sem.run_bind, run_underlying hu, goInt]
    rw [this]; exact SimR.same h (.int _ _)
  case sl i gi sz off len cap a c' hg hz hlc hc ha hl =>
    subst e
    obtain ⟨rfl, rfl⟩ := Zau hp
    cases d <;> simp [lenD] at hd
    have : (Builtin.len_ ts ty #[.slice a len c']).run P w = .ok (.int .i64 len) w := by simp [Builtin.len_, ht, Sem.run_bind, run_underlying hu, goInt]
    rw [this]; exact SimR.same h (.int _ _)
  case arr cells sz len cap b o0 c' xs hz hpu hn hc hlc h1 h2 =>
    subst e
    obtain ⟨rfl, rfl⟩ := Zau hp
    cases d <;> simp [lenD] at hd
    have : (Builtin.len_ ts ty #[.slice (some ⟨b, o0, none⟩) len c']).run P w = .ok (.int .i64 len) w := by simp [Builtin.len_, ht, Sem.run_bind, run_underlying hu, goInt]
    rw [this]; exact SimR.same h (.int _ _)
  case mpf ks vs r' ents clock hF hs hv hp' hw h1 h2 =>
    subst e
    obtain ⟨rfl, rfl⟩ := Zau hp
    cases d <;> simp [lenD] at hd
    have hb := h.frz _ _ hF
    have : (Builtin.len_ ts ty #[.map (some r')]).run P w = .ok (.int .i64 ks.length) w := by simp [Builtin.len_, ht, Sem.run_bind, run_underlying hu, goInt, getObj, Sem.run, hb, hs]
    rw [this]; exact SimR.same h (.int _ _)
  case mp i' gi r' hg hl =>
    subst e
    obtain ⟨o, r1, ho, hk, _⟩ := Zdv hp
    cases o <;> simp only at hk <;> try exact (Zaw hk).elim
    rename_i es
    obtain ⟨rfl, rfl⟩ := Zau hk
    obtain ⟨n, m, hm⟩ := hl (by rw [h.lv]; exact Zbl.2 ⟨_, ho, rfl⟩)
    obtain ⟨b', n', m', ents, clock, hm', _, hb, hs, _⟩ := (h.obj _ _ _ ho).2
    rw [hm] at hm'; cases hm'
    cases d <;> simp [lenD] at hd
    have : (Builtin.len_ ts ty #[.map (some r')]).run P w = .ok (.int .i64 es.length) w := by
      simp [Builtin.len_, ht, Sem.run_bind, run_underlying hu, goInt, getObj, Sem.run, hb, hs]
    rw [this]; exact SimR.same h (.int _ _)

theorem Ydc {ci : Bool → Nat → List V → Option (V × Option (List V × Kd))} {own : List (Nat × Nat)} {id g k : Nat} {y : Opd} {av v : V} {x : Value} {t e ty : TypeId} {ts : Array TypeId} {r ws : List Nat}
    (h : Rel C B X H w) (ht : ts[0]? = some t) (hu : P.underlying t = some (.slice e)) (ha : RV X av x)
    (hp : runP (Zaz ci own id g (.cap y) [av]) H = some (v, H', r, ws)) : SimR C B X v H' g k ((Builtin.cap_ ts ty #[x]).run P w) := by
  have hrun : ∀ a l c, (Builtin.cap_ ts ty #[.slice a l c]).run P w = .ok (.int .i64 c) w := fun a l c => by simp [Builtin.cap_, ht, Sem.run_bind, run_underlying hu, goInt]
  unfold Zaz capV at hp
  obtain ⟨hv, rfl⟩ := Zch hp
  cases ha <;> (try (simp at hv; done))
  case nils => simp at hv; subst hv; rw [hrun]; exact SimR.same h (.int _ _)
  case sl i gi sz off len cap a c' hg hz hlc hc ha hl =>
    cases cap with
    | none => simp at hv
    | some c => simp at hv; subst hv; rw [hrun, hc c rfl]; exact SimR.same h (.int _ _)
  case arr cells sz len cap b o0 c' xs hz hpu hn hc hlc h1 h2 =>
    cases cap with
    | none => simp at hv
    | some c => simp at hv; subst hv; rw [hrun, hc c rfl]; exact SimR.same h (.int _ _)
end Go.AM

set_option linter.unusedSimpArgs false
set_option linter.unusedVariables false
namespace Go.AM
open Go
variable {C : AC → Code → Prop} {B : Base} {X : Cx} {H H' : Heap} {w w' : World} {P : Program} {fm : Nat → Nat}

def CR (X : Cx) (us : List V) (xs : Array Value) : Prop :=
  xs.size = us.length ∧ (∀ (i : Nat) (v : V), us[i]? = some v → one v = true) ∧ ∀ (i : Nat) (v : V) (x : Value), us[i]? = some v → xs[i]? = some x → RV X v x
theorem CR.cut {us : List V} {xs : Array Value} (h : CR X us xs) {off n : Nat} (hle : off + n ≤ us.length) : CR X (cut us off n) (xs.extract off (off + n)) :=
  ⟨by rw [Zbp hle]; simp; have := h.1; omega, fun i v hv => h.2.1 _ _ (Zec hv).2, fun i v x hv hx => h.2.2 _ _ _ (Zec hv).2 (Zvk hx).2⟩

theorem Zjm : ∀ (ks : List SK) (ls : List SK) (a b c d : List V), a.length = ks.length → b.length = ks.length → eqL (ks ++ ls) (a ++ c) (b ++ d) = (match eqL ks a b with | some true => eqL ls c d | r => r)
  | [], ls, [], [], c, d, _, _ => by simp [eqL]
  | [], _, _ :: _, _, _, _, h, _ => by simp at h
  | [], _, [], _ :: _, _, _, _, h => by simp at h
  | _ :: _, _, [], _, _, _, h, _ => by simp at h
  | _ :: _, _, _ :: _, [], _, _, _, h => by simp at h
  | k :: ks, ls, x :: a, y :: b, c, d, h, h' => by
    simp only [List.cons_append, eqL]
    have ih := Zjm ks ls a b c d (by simpa using h) (by simpa using h')
    cases hxy : eqS k x y with
    | none => simp
    | some t => cases t <;> simp [ih]
theorem Zvf : ∀ {ks : List SK} {a b : List V}, eqL ks a b = some true → a.length = ks.length ∧ b.length = ks.length
  | [], [], [], _ => ⟨rfl, rfl⟩
  | [], _ :: _, _, h => by simp [eqL] at h
  | [], [], _ :: _, h => by simp [eqL] at h
  | _ :: _, [], _, h => by simp [eqL] at h
  | _ :: _, _ :: _, [], h => by simp [eqL] at h
  | k :: ks, x :: a, y :: b, h => by
    simp only [eqL] at h
    cases hxy : eqS k x y with
    | none => rw [hxy] at h; simp at h
    | some t =>
      rw [hxy] at h
      cases t with
      | false => simp at h
      | true =>
        obtain ⟨h1, h2⟩ := Zvf (ks := ks) h
        simp [h1, h2]
theorem drop_cut (us : List V) (off n : Nat) : us.drop off = cut us off n ++ us.drop (off + n) := by
  unfold cut
  rw [← List.drop_drop, List.take_append_drop]
theorem Zvp : ∀ {a b : List SK}, skB a b = true → a = b
  | [], [], _ => rfl
  | [], _ :: _, h => by simp [skB] at h
  | x :: a, [], h => by cases x <;> simp [skB] at h
  | x :: a, y :: b, h => by
    cases x <;> cases y <;> simp [skB] at h <;> rw [Zvp h]

/-- The statement for a type: of its parts, and of Zcc rows. -/
def EqAt (P : Program) (X : Cx) (t : TypeId) (ks : List SK) (d : Nat) : Prop :=
  szB P t ks.length = true ∧
  (∀ (w : World) (D : Nat) (us vs : List V) (xs ys : Array Value) (off : Nat) (b : Bool), d ≤ D → CR X us xs → CR X vs ys → off + ks.length ≤ us.length → off + ks.length ≤ vs.length →
    eqL ks (cut us off ks.length) (cut vs off ks.length) = some b → (do let x ← part t xs off; let y ← part t ys off; Op.equalIn D t x y).run P w = .ok b w)

theorem Zlu {t : TypeId} (hag : agB P t false = true) {us : List V} {xs : Array Value} {off : Nat} (h : CR X us xs) (hle : off + 1 ≤ us.length) :
    ∃ v x, cut us off 1 = [v] ∧ RV X v x ∧ ∀ w, (part t xs off).run P w = .ok x w := by
  have hlt : off < us.length := by omega
  have hlt' : off < xs.size := by rw [h.1]; exact hlt
  refine ⟨us[off], xs[off], ?_, h.2.2 off _ _ (List.getElem?_eq_getElem hlt) (Array.getElem?_eq_getElem hlt'), fun w => ?_⟩
  · unfold cut
    rw [List.drop_eq_getElem_cons hlt]
    rfl
  · simp only [part, Sem.run_bind, Zcl hag, Result.andThen_ok, Bool.false_eq_true, if_false, Array.getElem?_eq_getElem hlt', Sem.run_pure]

theorem eqS_i {v u : V} {x y : Value} {b : Bool} {t : TypeId} {k : IntKind} {D : Nat} (hd : P.underlying t = some (.int k)) (hv : RV X v x) (hu : RV X u y) (h : eqS .i v u = some b) (hD : 1 ≤ D) : (Op.equalIn D t x y).run P w = .ok b w := by
  obtain ⟨D, rfl⟩ : ∃ n, D = n + 1 := ⟨D - 1, by omega⟩
  cases v <;> cases u <;> simp only [eqS] at h <;> try (simp at h; done)
  split at h
  · rename_i e; subst e
    simp only [Option.some.injEq] at h; subst h
    cases hv; cases hu
    exact run_equalIn_int w D t _ k _ _ hd
  · simp at h
theorem eqS_b {v u : V} {x y : Value} {b : Bool} {t : TypeId} {D : Nat} (hd : P.underlying t = some .bool) (hv : RV X v x) (hu : RV X u y) (h : eqS .b v u = some b) (hD : 1 ≤ D) : (Op.equalIn D t x y).run P w = .ok b w := by
  obtain ⟨D, rfl⟩ : ∃ n, D = n + 1 := ⟨D - 1, by omega⟩
  cases v <;> cases u <;> simp only [eqS] at h <;> try (simp at h; done)
  simp only [Option.some.injEq] at h; subst h
  cases hv; cases hu
  exact run_equalIn_bool' w D t _ _ hd
theorem eqS_s {v u : V} {x y : Value} {b : Bool} {t : TypeId} {D : Nat} (hd : P.underlying t = some .string) (hv : RV X v x) (hu : RV X u y) (h : eqS .s v u = some b) (hD : 1 ≤ D) : (Op.equalIn D t x y).run P w = .ok b w := by
  obtain ⟨D, rfl⟩ : ∃ n, D = n + 1 := ⟨D - 1, by omega⟩
  cases v <;> cases u <;> simp only [eqS] at h <;> try (simp at h; done)
  simp only [Option.some.injEq] at h; subst h
  cases hv; cases hu
  rw [beq_toListBytes]
  exact run_equalIn_string w D t _ _ hd
theorem Zjn {t : TypeId} {d : TypeDesc} (h : P.underlying t = some d) (hd : rowD d = false) : agB P t false = true := by simp [agB, h, hd]
theorem Zyv {t : TypeId} {d : TypeDesc} (h : P.underlying t = some d) (hd : rowD d = true) : agB P t true = true := by simp [agB, h, hd]

theorem Zhz {t : TypeId} {k : SK} {d : Nat} {td : TypeDesc} (hu : P.underlying t = some td) (hr : rowD td = false) (hz : szB P t 1 = true)
    (hs : ∀ (w : World) (D : Nat) (v u : V) (x y : Value) (b : Bool), 1 ≤ D → RV X v x → RV X u y → eqS k v u = some b → (Op.equalIn D t x y).run P w = .ok b w) : EqAt P X t [k] (d + 1) := by
  refine ⟨hz, fun w D us vs xs ys off b hD hus hvs hl1 hl2 h => ?_⟩
  obtain ⟨v, x, e1, r1, p1⟩ := Zlu (Zjn hu hr) hus hl1
  obtain ⟨u, y, e2, r2, p2⟩ := Zlu (Zjn hu hr) hvs hl2
  simp only [List.length_cons, List.length_nil, Nat.zero_add] at h
  rw [e1, e2] at h
  have h' : eqS k v u = some b := by
    simp only [eqL] at h
    cases hq : eqS k v u with
    | none => rw [hq] at h; simp at h
    | some q => rw [hq] at h; cases q <;> simpa using h
  simp only [Sem.run_bind, p1, p2, Result.andThen_ok]
  exact hs w D v u x y b (by omega) r1 r2 h'

/-- A row type: from a statement on Zcc rows. -/
theorem Zto {t : TypeId} {ks : List SK} {d : Nat} {td : TypeDesc} (hu : P.underlying t = some td) (hr : rowD td = true) (hz : szB P t ks.length = true)
    (hs : ∀ (w : World) (D : Nat) (us vs : List V) (xs ys : Array Value) (b : Bool), d ≤ D → CR X us xs → CR X vs ys → us.length = ks.length → vs.length = ks.length → eqL ks us vs = some b → (Op.equalIn (D + 1) t (.agg xs) (.agg ys)).run P w = .ok b w) :
    EqAt P X t ks (d + 1) := by
  refine ⟨hz, fun w D us vs xs ys off b hD hus hvs hl1 hl2 h => ?_⟩
  obtain ⟨D, rfl⟩ : ∃ n, D = n + 1 := ⟨D - 1, by omega⟩
  have p : ∀ (zs : Array Value) (w : World), (part t zs off).run P w = .ok (.agg (zs.extract off (off + ks.length))) w := fun zs w => by
    simp only [part, Sem.run_bind, Zcl (Zyv hu hr), Result.andThen_ok, if_true, Zbh hz, Sem.run_pure]
  simp only [Sem.run_bind, p, Result.andThen_ok]
  exact hs w D _ _ _ _ b (by omega) (hus.cut hl1) (hvs.cut hl2) (Zbp hl1) (Zbp hl2) h

theorem Zjw {d D : Nat} (hD : d ≤ D) {f : TypeId → Option (List SK)} (hf : ∀ t ks, f t = some ks → EqAt P X t ks d) {us vs : List V} {xs ys : Array Value} (hus : CR X us xs) (hvs : CR X vs ys) :
    ∀ (fs : List Field) (off : Nat) (ks : List SK) (b : Bool) (w : World), shp.shpS f fs off = some ks → off + ks.length ≤ us.length → off + ks.length ≤ vs.length →
      eqL ks (cut us off ks.length) (cut vs off ks.length) = some b → (Op.eqFields D xs ys fs).run P w = .ok b w
  | [], off, ks, b, w, hs, h1, h2, h => by
    simp only [shp.shpS, Option.some.injEq] at hs
    subst hs
    simp [cut, eqL] at h
    subst h
    simp [Op.eqFields]
  | fd :: fs, off, ks, b, w, hs, h1, h2, h => by
    simp only [shp.shpS] at hs
    split at hs
    · rename_i hc
      split at hs
      · rename_i k1 hk1
        split at hs
        · rename_i k2 hk2
          simp only [Option.some.injEq] at hs
          subst hs
          simp only [List.length_append] at h1 h2
          have e : ∀ l : List V, off + (k1.length + k2.length) ≤ l.length → cut l off (k1 ++ k2).length = cut l off k1.length ++ cut l (off + k1.length) k2.length := fun l hl => by
            unfold cut
            rw [List.length_append, List.take_add, List.drop_drop]
          rw [e us (by omega), e vs (by omega), Zjm _ _ _ _ _ _ (Zbp (by omega)) (Zbp (by omega))] at h
          obtain ⟨hz, hp⟩ := hf _ _ hk1
          simp only [Op.eqFields, hc.2, ne_eq, not_false_eq_true, if_true]
          cases hq : eqL k1 (cut us off k1.length) (cut vs off k1.length) with
          | none => rw [hq] at h; simp at h
          | some q =>
            have hrun := hp w D us vs xs ys off q hD hus hvs (by omega) (by omega) hq
            rw [hc.1]
            have assoc : (do
                let a ← part fd.type xs off
                let b ← part fd.type ys off
                let r ← Op.equalIn D fd.type a b
                if (!r) = true then pure false else Op.eqFields D xs ys fs) = ((do
                let a ← part fd.type xs off
                let b ← part fd.type ys off
                Op.equalIn D fd.type a b) >>= fun r => if (!r) = true then pure false else Op.eqFields D xs ys fs : Sem Bool) := by
              simp only [bind_assoc]
            rw [assoc, Sem.run_bind, hrun]
            rw [hq] at h
            cases q with
            | false =>
              simp only [Option.some.injEq] at h
              subst h
              simp
            | true =>
              simp only [Result.andThen_ok, Bool.not_true, Bool.false_eq_true, if_false]
              exact Zjw hD hf hus hvs fs _ k2 b w hk2 (by omega) (by omega) h
        · cases hs
      · cases hs
    · cases hs

theorem Zlh {d D : Nat} (hD : d ≤ D) {e : TypeId} {ks : List SK} (hf : EqAt P X e ks d) {us vs : List V} {xs ys : Array Value} (hus : CR X us xs) (hvs : CR X vs ys) :
    ∀ (n i : Nat) (b : Bool) (w : World), i * ks.length + n * ks.length ≤ us.length → i * ks.length + n * ks.length ≤ vs.length →
      eqL (List.replicate n ks).flatten (cut us (i * ks.length) (n * ks.length)) (cut vs (i * ks.length) (n * ks.length)) = some b → (Op.eqItems D e ks.length xs ys (List.range' i n)).run P w = .ok b w
  | 0, i, b, w, h1, h2, h => by
    simp [cut, eqL] at h
    subst h
    simp [Op.eqItems]
  | n + 1, i, b, w, h1, h2, h => by
    have hm : (n + 1) * ks.length = ks.length + n * ks.length := by rw [Nat.add_mul]; omega
    have hi : (i + 1) * ks.length = i * ks.length + ks.length := by rw [Nat.add_mul]; omega
    rw [hm] at h h1 h2
    have e' : ∀ l : List V, cut l (i * ks.length) (ks.length + n * ks.length) = cut l (i * ks.length) ks.length ++ cut l ((i + 1) * ks.length) (n * ks.length) := fun l => by
      unfold cut
      rw [List.take_add, List.drop_drop, hi]
    rw [e' us, e' vs, List.replicate_succ, List.flatten_cons, Zjm _ _ _ _ _ _ (Zbp (by omega)) (Zbp (by omega))] at h
    obtain ⟨hz, hp⟩ := hf
    simp only [List.range'_succ, Op.eqItems]
    cases hq : eqL ks (cut us (i * ks.length) ks.length) (cut vs (i * ks.length) ks.length) with
    | none => rw [hq] at h; simp at h
    | some q =>
      have hrun := hp w D us vs xs ys _ q hD hus hvs (by omega) (by omega) hq
      have assoc : (do
          let a ← part e xs (i * ks.length)
          let b ← part e ys (i * ks.length)
          let r ← Op.equalIn D e a b
          if (!r) = true then pure false else Op.eqItems D e ks.length xs ys (List.range' (i + 1) n)) = ((do
          let a ← part e xs (i * ks.length)
          let b ← part e ys (i * ks.length)
          Op.equalIn D e a b) >>= fun r => if (!r) = true then pure false else Op.eqItems D e ks.length xs ys (List.range' (i + 1) n) : Sem Bool) := by
        simp only [bind_assoc]
      rw [assoc, Sem.run_bind, hrun]
      rw [hq] at h
      cases q with
      | false =>
        simp only [Option.some.injEq] at h
        subst h
        simp
      | true =>
        simp only [Result.andThen_ok, Bool.not_true, Bool.false_eq_true, if_false]
        exact Zlh hD ⟨hz, hp⟩ hus hvs n (i + 1) b w (by rw [hi]; omega) (by rw [hi]; omega) h

theorem eqAt : ∀ (d : Nat) (t : TypeId) (ks : List SK), shp P d t = some ks → EqAt P X t ks d
  | 0, t, ks, h => by simp [shp] at h
  | d + 1, t, ks, h => by
    simp only [shp] at h
    split at h
    · rename_i k hk
      split at h
      · rename_i hz
        cases h
        exact Zhz hk rfl hz fun w D v u x y b hD hv hu h => eqS_i hk hv hu h hD
      · cases h
    · rename_i hk
      split at h
      · rename_i hz
        cases h
        exact Zhz hk rfl hz fun w D v u x y b hD hv hu h => eqS_b hk hv hu h hD
      · cases h
    · rename_i hk
      split at h
      · rename_i hz
        cases h
        exact Zhz hk rfl hz fun w D v u x y b hD hv hu h => eqS_s hk hv hu h hD
      · cases h
    · rename_i fs hk
      split at h
      · cases h
      · rename_i hsh
        split at h
        · rename_i ks' hks
          split at h
          · rename_i hz
            cases h
            refine Zto hk rfl hz fun w D us vs xs ys b hD hus hvs hl1 hl2 h => ?_
            have hfo : P.fieldsOf t = fs := by simp [Program.fieldsOf, hk]
            rw [run_equalIn_struct w D t xs ys (by rw [hfo]; exact hk) (by simpa using hsh), hfo]
            refine Zjw hD (fun t ks ht => eqAt d t ks ht) hus hvs fs.toList 0 ks b w hks (by omega) (by omega) ?_
            have e1 : cut us 0 ks.length = us := by unfold cut; rw [List.drop_zero, ← hl1, List.take_length]
            have e2 : cut vs 0 ks.length = vs := by unfold cut; rw [List.drop_zero, ← hl2, List.take_length]
            rw [e1, e2]; exact h
          · cases h
        · cases h
    · rename_i n e hk
      split at h
      · rename_i ks' hks
        split at h
        · rename_i hz
          cases h
          have hE := eqAt d e ks' hks
          obtain ⟨i, hi, hsz⟩ := Znk hE.1
          have hlen : ((List.replicate n ks').flatten).length = n * ks'.length := by simp
          have hco : P.cellsOf e = ks'.length := by simp [Program.cellsOf, hi, hsz]
          refine Zto hk rfl (by rw [hlen]; exact hz) fun w D us vs xs ys b hD hus hvs hl1 hl2 h => ?_
          rw [run_equalIn_array w D xs ys hk hi, hco, List.range_eq_range']
          rw [hlen] at hl1 hl2
          refine Zlh hD hE hus hvs n 0 b w (by omega) (by omega) ?_
          have e1 : cut us (0 * ks'.length) (n * ks'.length) = us := by unfold cut; rw [Nat.zero_mul, List.drop_zero, ← hl1, List.take_length]
          have e2 : cut vs (0 * ks'.length) (n * ks'.length) = vs := by unfold cut; rw [Nat.zero_mul, List.drop_zero, ← hl2, List.take_length]
          rw [e1, e2]; exact h
        · cases h
      · cases h
    · cases h

/-- Values of such a type are equal just where the abstract ones are. -/
theorem Zyl {t : TypeId} {ag : Bool} {ks : List SK} {v u : V} {x y : Value} {b : Bool} (ht : shpB P t ag ks = true) (hv : RV X v x) (hu : RV X u y) (h : eqK ag ks v u = some b) (D : Nat) (hD : 9 ≤ D) (w : World) :
    (Op.equalIn D t x y).run P w = .ok b w := by
  simp only [shpB, Bool.and_eq_true] at ht
  obtain ⟨hag, ht⟩ := ht
  split at ht
  · rename_i l hl
    obtain rfl := Zvp ht
    obtain ⟨hz, hp⟩ := eqAt (X := X) 9 t _ hl
    cases ag with
    | true =>
      unfold eqK at h
      cases hv <;> cases hu <;> simp only at h <;> try (simp at h; done)
      rename_i us xs hs1 ho1 hr1 vs ys hs2 ho2 hr2
      split at h
      · rename_i hlen
        have e : ∀ (l : List V) (z : Array Value), z.size = l.length → l.length = ks.length → (∀ w : World, (part t z 0).run P w = .ok (.agg z) w) ∧ cut l 0 ks.length = l := fun l z h1 h2 => by
          refine ⟨fun w => ?_, by unfold cut; rw [List.drop_zero, ← h2, List.take_length]⟩
          simp only [part, Sem.run_bind, Zcl hag, Result.andThen_ok, if_true, Zbh hz, Sem.run_pure]
          rw [Nat.zero_add, ← h2, ← h1, Array.extract_size]
        obtain ⟨p1, q1⟩ := e us xs hs1 hlen.1
        obtain ⟨p2, q2⟩ := e vs ys hs2 hlen.2
        have := hp w D us vs xs ys 0 b hD ⟨hs1, ho1, hr1⟩ ⟨hs2, ho2, hr2⟩ (by omega) (by omega) (by rw [q1, q2]; exact h)
        simpa only [Sem.run_bind, p1, p2, Result.andThen_ok] using this
      · cases h
    | false =>
      unfold eqK at h
      simp only at h
      split at h
      · rename_i k
        have ones : one v = true ∧ one u = true := by
          cases k <;> cases v <;> cases u <;> simp [eqS] at h <;> exact ⟨rfl, rfl⟩
        have c : ∀ {v : V} {x : Value}, RV X v x → one v = true → CR X [v] #[x] := fun {v x} hv ho => by
          refine ⟨rfl, fun i u hu => ?_, fun i u y hu hy => ?_⟩
          · cases i with
            | zero => simp at hu; subst hu; exact ho
            | succ i => simp at hu
          · cases i with
            | zero => simp at hu hy; subst hu hy; exact hv
            | succ i => simp at hu
        have p : ∀ (z : Value) (w : World), (part t #[z] 0).run P w = .ok z w := fun z w => by
          simp only [part, Sem.run_bind, Zcl hag, Result.andThen_ok, Bool.false_eq_true, if_false]
          rfl
        have hE : eqL [k] [v] [u] = some b := by
          simp only [eqL]
          rw [h]; cases b <;> rfl
        have := hp w D [v] [u] #[x] #[y] 0 b hD (c hv ones.1) (c hu ones.2) (by simp) (by simp) (by simpa [cut] using hE)
        simpa only [Sem.run_bind, p, Result.andThen_ok] using this
      · cases h
  · cases ht
end Go.AM
