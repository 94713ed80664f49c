/- Isolated calls. -/
import Derived.Test.YteooegmokbbeoaaGauF
set_option linter.unusedSimpArgs false
set_option linter.unusedVariables false
namespace Go.AM
open Go
variable {B : Base} {X : Cx} {H H' : Heap} {w w' : World} {P : Program} {fm : Nat → Nat} {AP : Zce} {E : AC → St → Option (Ex × St)}

/-- A context without a heap. -/
def bare (fm : Nat → Nat) (F : Nat → Option Obj) : Cx := { fm := fm, F := F, lv := fun _ _ => none, μ := fun _ => none, iss := fun _ _ => False }

/-! ### A look at the heap as it stands -/
def Znj (C : AC → Code → Prop) (B : Base) (X : Cx) (H : Heap) (w : World) (f : V → (V → Plan) → Plan) : Prop :=
  ∀ (v : V) (x : Value) (k : V → Plan) (out : V × Heap × List Nat × List Nat), Rel C B X H w → RV X v x → runP (f v k) H = some out →
    ∃ (v' : V) (r ws : List Nat), RV (bare X.fm fun b => w.heap[b]?) v' x ∧ Zoh v v' ∧ runP (k v') H = some (out.1, out.2.1, r, ws)

theorem Zdk {C : AC → Code → Prop} {f : V → (V → Plan) → Plan} (hf : Znj C B X H w f) : ∀ (cs : List V) (xs : Nat → Value) (k : List V → Plan) (out : V × Heap × List Nat × List Nat), Rel C B X H w →
    (∀ (i : Nat) (v : V), cs[i]? = some v → RV X v (xs i)) → runP (Zby f cs k) H = some out →
    ∃ (cs' : List V) (r ws : List Nat), cs'.length = cs.length ∧ Zak.pureL cs' = true ∧ (∀ (i : Nat) (v : V), cs'[i]? = some v → RV (bare X.fm fun b => w.heap[b]?) v (xs i) ∧ ∃ u, cs[i]? = some u ∧ Zoh u v) ∧ runP (k cs') H = some (out.1, out.2.1, r, ws)
  | [], xs, k, out, h, hc, hp => ⟨[], out.2.2.1, out.2.2.2, rfl, rfl, fun i v hv => by simp at hv, hp⟩
  | c :: cs, xs, k, out, h, hc, hp => by
    obtain ⟨c', r, ws, a4, a5, a6⟩ := hf c (xs 0) _ out h (hc 0 c rfl) hp
    obtain ⟨cs', r', ws', b4, b5, b6, b7⟩ := Zdk hf cs (fun i => xs (i + 1)) _ _ h (fun i v hv => hc (i + 1) v (by simpa using hv)) a6
    refine ⟨c' :: cs', r', ws', by simp [b4], by simp [Zak.pureL, a5.1, b5], fun i v hv => ?_, b7⟩
    cases i with
    | zero => simp at hv; subst hv; exact ⟨a4, c, rfl, a5⟩
    | succ i => exact b6 i v (by simpa using hv)

theorem Zil {C : AC → Code → Prop} {v : V} {x : Value} (h : Rel C B X H w) (hx : RV X v x) (hp : Zak v = true) : RV (bare X.fm fun b => w.heap[b]?) v x :=
  RV.pure (X := X) (Y := bare X.fm fun b => w.heap[b]?) rfl (fun b o _ hb => h.frz b _ hb) hx hp

theorem Zkb {C : AC → Code → Prop} : ∀ d : Nat, Znj C B X H w (Zav false d)
  | 0 => fun v x k out h hx hp => by
    unfold Zav at hp
    split at hp
    · rename_i hpu
      exact ⟨v, out.2.2.1, out.2.2.2, Zil h hx hpu, Zge hpu, hp⟩
    · exact (Zaw hp).elim
  | d + 1 => fun v x k out h hx hp => by
    have ih : Znj C B X H w (Zav false d) := Zkb d
    unfold Zav at hp
    split at hp
    · rename_i hpu
      exact ⟨v, out.2.2.1, out.2.2.2, Zil h hx hpu, Zge hpu, hp⟩
    · rename_i hpu
      cases v <;> simp only at hp <;> (try exact (Zaw hp).elim)
      case sl id g sz off len cap =>
        obtain ⟨o, r1, ho, hp, _⟩ := Zdv hp
        cases o <;> (try exact (Zaw hp).elim)
        rename_i cs kd
        simp only at hp
        obtain ⟨hle, hp⟩ := Zbw hp
        have hp1 := hp
        clear hp
        cases hx with
        | sl _ _ _ _ _ _ a c' hg hz hlc hc ha hl =>
        have hsl := hl cs.length (by rw [h.lv]; exact Zbl.2 ⟨_, ho, rfl⟩)
        cases hm : X.μ id with
        | none =>
          have hro := (h.obj _ _ _ ho).2
          unfold RO at hro
          rw [hm] at hro
          obtain ⟨rfl, rfl⟩ := hro
          unfold SlR at hsl
          rw [hm] at hsl
          obtain ⟨rfl, _, rfl, rfl, _, _⟩ := hsl
          simp only [Zak.pureL, if_true, frzK] at hp1
          exact ⟨.nils, r1, out.2.2.2, .nils, ⟨rfl, fun _ => rfl, fun _ => rfl⟩, hp1⟩
        | some q =>
          obtain ⟨b, base, tot⟩ := q
          obtain ⟨hL, hn, c, t, hb, hs, hlen, hfr⟩ := h.lies ho hm
          let xs : Nat → Value := fun i => (c[base + i]?).getD undef
          have hcx : ∀ (i : Nat) (v : V), cs[i]? = some v → RV X v (xs i) ∧ one v = true ∧ c[base + i]? = some (xs i) := fun i v hv => by
            obtain ⟨q1, y, q2, q3⟩ := hL i v hv
            have q2' : c[base + i]? = some y := by simpa [World.cell?, hb] using q2
            exact ⟨by simpa [xs, q2'] using q3, q1, by simp [xs, q2']⟩
          have cells : ∃ (cs' : List V) (r ws : List Nat), cs'.length = cs.length ∧ Zak.pureL cs' = true ∧
              (∀ (i : Nat) (v : V), cs'[i]? = some v → RV (bare X.fm fun b => w.heap[b]?) v (xs i) ∧ one v = true) ∧
              runP (frzK false id g sz off len cap kd k cs') H = some (out.1, out.2.1, r, ws) := by
            by_cases hpc : Zak.pureL cs = true
            · rw [if_pos hpc] at hp1
              exact ⟨cs, _, _, rfl, hpc, fun i v hv => ⟨Zil h (hcx i v hv).1 (Zcd hpc hv), (hcx i v hv).2.1⟩, hp1⟩
            · rw [if_neg hpc] at hp1
              obtain ⟨cs', r, ws, a4, a5, a6, a7⟩ := Zdk ih cs xs _ _ h (fun i v hv => (hcx i v hv).1) hp1
              refine ⟨cs', r, ws, a4, a5, fun i v hv => ?_, a7⟩
              obtain ⟨q1, u, q2, q3⟩ := a6 i v hv
              exact ⟨q1, q3.2.1 (hcx i u q2).2.1⟩
          obtain ⟨cs', r, ws, a4, a5, a6, a7⟩ := cells
          have hcb : ∀ (i : Nat) (v : V), cs'[i]? = some v → c[base + i]? = some (xs i) := fun i v hv => by
            have hi := (List.getElem?_eq_some_iff.1 hv).1
            exact (hcx i cs[i] (List.getElem?_eq_getElem (by omega))).2.2
          have value : RV (bare X.fm fun b => w.heap[b]?) (.arr (cut cs' off (len * sz)) sz len cap) (.slice a len c') := by
            unfold SlR at hsl
            rw [hm] at hsl
            rcases hsl with ⟨rfl, t1, t2, t3, t4⟩ | ⟨⟨b', o', rfl⟩, rfl, rfl, _⟩
            · refine Yda (xs := xs) rfl hz a5 (by omega) hc hlc fun i v hv => ⟨(a6 i v hv).1, (a6 i v hv).2, ?_⟩
              simp only [bare, Zjq, hb]
              exact hcb i v hv
            · simp only [Nat.zero_mul, cut, List.take_zero]
              exact Zxs hz hc
          have ftz : Zoh (.sl id g sz off len cap) (.arr (cut cs' off (len * sz)) sz len cap) := ⟨by simp only [Zak], fun _ => rfl, fun _ => rfl⟩
          cases kd with
          | nilo => exact absurd rfl hn
          | froz => exact ⟨_, r, ws, value, ftz, a7⟩
          | fixed => exact ⟨_, r, ws, value, ftz, a7⟩
          | loose => exact ⟨_, r, ws, value, ftz, a7⟩
      case ptr id g off =>
        obtain ⟨o, r1, ho, hp, _⟩ := Zdv hp
        cases o <;> (try exact (Zaw hp).elim)
        rename_i cs kd
        cases hx with
        | ptr _ _ _ a hg hl =>
        obtain ⟨b, base, tot, hm, rfl⟩ := hl cs.length (by rw [h.lv]; exact Zbl.2 ⟨_, ho, rfl⟩)
        obtain ⟨hL, hn, c, t, hb, hs, hlen, hfr⟩ := h.lies ho hm
        let xs : Nat → Value := fun i => (c[base + i]?).getD undef
        have hcx : ∀ (i : Nat) (v : V), cs[i]? = some v → RV X v (xs i) ∧ one v = true ∧ c[base + i]? = some (xs i) := fun i v hv => by
          obtain ⟨q1, y, q2, q3⟩ := hL i v hv
          have q2' : c[base + i]? = some y := by simpa [World.cell?, hb] using q2
          exact ⟨by simpa [xs, q2'] using q3, q1, by simp [xs, q2']⟩
        have go : runP (Zby (Zav false d) cs fun cs' => k (.pf cs' off)) H = some (out.1, out.2.1, r1, out.2.2.2) →
            ∃ (v' : V) (r ws : List Nat), RV (bare X.fm fun b => w.heap[b]?) v' (.pointer (some ⟨b, base + off, none⟩)) ∧ Zoh (.ptr id g off) v' ∧ runP (k v') H = some (out.1, out.2.1, r, ws) := fun hp => by
          obtain ⟨cs', r, ws, a4, a5, a6, a7⟩ := Zdk ih cs xs _ _ h (fun i v hv => (hcx i v hv).1) hp
          refine ⟨.pf cs' off, r, ws, .pf cs' off b base xs a5 (fun i v hv => ?_) (fun i v hv => (a6 i v hv).1), ⟨by simp [Zak], fun _ => rfl, fun _ => rfl⟩, a7⟩
          obtain ⟨_, u, q2, q3⟩ := a6 i v hv
          obtain ⟨_, p2, p3⟩ := hcx i u q2
          exact ⟨by simp only [bare, Zjq, hb]; exact p3, q3.2.1 p2⟩
        cases kd with
        | nilo => exact absurd rfl hn
        | froz => exact go hp
        | fixed => exact go hp
        | loose => exact go hp
      case mp id g =>
        obtain ⟨o, r1, ho, hp, _⟩ := Zdv hp
        cases o <;> (try exact (Zaw hp).elim)
        rename_i es
        cases hx with
        | mp _ _ b hg hl =>
        obtain ⟨n1, m1, hm⟩ := hl (by rw [h.lv]; exact Zbl.2 ⟨_, ho, rfl⟩)
        obtain ⟨hF, ents, clock, hb, hs, he⟩ := (h.obj _ _ _ ho).2.map_ents hm
        obtain ⟨hpk, hp⟩ := Zbw hp
        obtain ⟨vs', r, ws, a4, a5, a6, a7⟩ := Zdk ih (es.map (·.2)) (fun i => ((ents[i]?).map (·.val)).getD undef) _ _ h (fun i v hv => by
          rw [List.getElem?_map] at hv
          cases hes : es[i]? with
          | none => rw [hes] at hv; simp at hv
          | some e =>
            rw [hes] at hv
            simp at hv
            subst hv
            obtain ⟨_, ent, q1, _, q3⟩ := he i e hes
            rw [Array.getElem?_toList] at q1
            simp only [q1, Option.map_some, Option.getD_some]
            exact q3) hp
        refine ⟨.mpf (es.map (·.1)) vs', r, ws, .mpf _ _ b ents clock hb (by simp [hs]) (by simp [a4]) ⟨hpk, a5⟩ (fun i v hv => ?_) (fun i v e hv hent => ?_) (fun i v e hv hent => ?_), ⟨by simp [Zak, hpk, a5], fun _ => rfl, fun _ => rfl⟩, a7⟩
        · obtain ⟨_, u, q2, q3⟩ := a6 i v hv
          rw [List.getElem?_map] at q2
          cases hes : es[i]? with
          | none => rw [hes] at q2; simp at q2
          | some e =>
            rw [hes] at q2
            simp at q2
            subst q2
            exact q3.2.2 (he i e hes).1
        · have hk := Zcd hpk hv
          rw [List.getElem?_map] at hv
          cases hes : es[i]? with
          | none => rw [hes] at hv; simp at hv
          | some e' =>
            rw [hes] at hv
            simp at hv
            subst hv
            obtain ⟨_, ent, q1, q2, _⟩ := he i e' hes
            rw [Array.getElem?_toList] at q1
            rw [hent] at q1
            cases q1
            exact Zil h q2 hk
        · have := (a6 i v hv).1
          rw [hent] at this
          exact this
      case fn f fst caps =>
        cases hx with
        | fn _ _ _ fs cs hfs hcs q1 q2 =>
        obtain ⟨fst', r, ws, a4, a5, a6, a7⟩ := Zdk ih fst (fun i => (fs[i]?).getD undef) _ _ h (fun i v hv => by
          have hi := (List.getElem?_eq_some_iff.1 hv).1
          have hx : fs[i]? = some fs[i] := Array.getElem?_eq_getElem (by omega)
          rw [hx]; exact q1 i v _ hv hx) hp
        obtain ⟨caps', r', ws', b4, b5, b6, b7⟩ := Zdk ih caps (fun i => (cs[i]?).getD undef) _ _ h (fun i v hv => by
          have hi := (List.getElem?_eq_some_iff.1 hv).1
          have hx : cs[i]? = some cs[i] := Array.getElem?_eq_getElem (by omega)
          rw [hx]; exact q2 i v _ hv hx) a7
        refine ⟨.fn f fst' caps', r', ws', ?_, ⟨by simp [Zak, a5, b5], fun _ => rfl, fun _ => rfl⟩, b7⟩
        refine .fn (X := bare X.fm fun b => w.heap[b]?) f fst' caps' fs cs (by omega) (by omega) (fun i v x hv hx => ?_) (fun i v x hv hx => ?_)
        · have := (a6 i v hv).1
          rw [hx] at this; exact this
        · have := (b6 i v hv).1
          rw [hx] at this; exact this
      case agg cs =>
        cases hx with
        | agg _ xs hs h1 h2 =>
        obtain ⟨cs', r, ws, a4, a5, a6, a7⟩ := Zdk ih cs (fun i => (xs[i]?).getD undef) _ _ h (fun i v hv => by
          have hi := (List.getElem?_eq_some_iff.1 hv).1
          have hx : xs[i]? = some xs[i] := Array.getElem?_eq_getElem (by omega)
          rw [hx]; exact h2 i v _ hv hx) hp
        refine ⟨.agg cs', r, ws, .agg cs' xs (by omega) (fun i v hv => ?_) (fun i v x hv hx => ?_), ⟨by simpa [Zak] using a5, fun e => by simp [one] at e, fun _ => rfl⟩, a7⟩
        · obtain ⟨_, u, q2, q3⟩ := a6 i v hv
          exact q3.2.1 (h1 i u q2)
        · have := (a6 i v hv).1
          rw [hx] at this; exact this
      case tup cs =>
        cases hx with
        | tup _ xs hs h2 =>
        obtain ⟨cs', r, ws, a4, a5, a6, a7⟩ := Zdk ih cs (fun i => (xs[i]?).getD undef) _ _ h (fun i v hv => by
          have hi := (List.getElem?_eq_some_iff.1 hv).1
          have hx : xs[i]? = some xs[i] := Array.getElem?_eq_getElem (by omega)
          rw [hx]; exact h2 i v _ hv hx) hp
        refine ⟨.tup cs', r, ws, .tup cs' xs (by omega) (fun i v x hv hx => ?_), ⟨by simpa [Zak] using a5, fun e => by simp [one] at e, fun e => by simp [Zcc] at e⟩, a7⟩
        have := (a6 i v hv).1
        rw [hx] at this; exact this

/-- A call's values, seen apart from the heap: what is frozen of them lies in 'F'. -/
theorem Ztl {C : AC → Code → Prop} {d : Nat} {cs : List V} {xs : List Value} {k : List V → Plan} {v : V} {r ws : List Nat} (h : Rel C B X H w) (hc : RL X cs xs) (hp : runP (Zbg false d cs k) H = some (v, H', r, ws)) :
    ∃ (F0 : Nat → Option Obj) (cs' : List V) (r' ws' : List Nat), (∀ b o, F0 b = some o → w.heap[b]? = some o) ∧ (Zak.pureL cs = true → F0 = X.F) ∧ RL (bare X.fm F0) cs' xs ∧ Zak.pureL cs' = true ∧ runP (k cs') H = some (v, H', r', ws') := by
  unfold Zbg at hp
  split at hp
  · rename_i hpu
    exact ⟨X.F, cs, r, ws, h.frz, fun _ => rfl, ⟨hc.1, fun i v x hv hx => RV.pure (X := X) (Y := bare X.fm X.F) rfl (fun b o _ hb => hb) (hc.2 i v x hv hx) (Zcd hpu hv)⟩, hpu, hp⟩
  · rename_i hpu
    obtain ⟨cs', r', ws', a4, a5, a6, a7⟩ := Zdk (Zkb d) cs (fun i => (xs[i]?).getD undef) _ _ h (fun i v hv => by
      have hi := (List.getElem?_eq_some_iff.1 hv).1
      have hlt : i < xs.length := by have := hc.1; omega
      have hx : xs[i]? = some xs[i] := List.getElem?_eq_getElem hlt
      rw [hx]; exact hc.2 i v _ hv hx) hp
    refine ⟨fun b => w.heap[b]?, cs', r', ws', fun b o hb => hb, fun e => absurd e hpu, ⟨by rw [hc.1, a4], fun i v x hv hx => ?_⟩, a5, a7⟩
    have := (a6 i v hv).1
    rw [hx] at this; exact this

/-! ### The call -/
/-- Another world, with the old blocks as they were. -/
def Zox (w w' : World) : Prop := (∀ b, b < w.heap.size → w'.heap[b]? = w.heap[b]?) ∧ w.heap.size ≤ w'.heap.size ∧ w'.os = w.os ∧ w'.tape = w.tape ∧ w'.output = w.output
def over (w : World) (F0 G : Nat → Option Obj) : Nat → Option Obj := fun b => if b < w.heap.size then F0 b else G b

theorem Ybc {C : AC → Code → Prop} {F0 : Nat → Option Obj} (hF : ∀ b o, F0 b = some o → w.heap[b]? = some o) : Rel C ⟨w, F0⟩ (bare fm F0) [] w :=
  ⟨by funext id g; simp [bare, lvH, getH], hF, fun id g o hi => by simp at hi, fun _ _ _ _ _ _ _ _ _ _ _ hi => by simp at hi, fun _ _ _ _ _ _ hi => by simp at hi, fun _ _ => rfl, fun b o hb => .inl hb, rfl, rfl, rfl, Nat.le_refl _⟩

/-- What an isolated call gives. -/
def IsoP (fm : Nat → Nat) (w : World) (F0 : Nat → Option Obj) : V × Option (List V × Kd) → Value → World → Prop
  | (v, none), x, w' => ∃ G : Nat → Option Obj, Zox w w' ∧ (∀ b o, G b = some o → w.heap.size ≤ b ∧ w'.heap[b]? = some o) ∧ Zak v = true ∧ RV (bare fm (over w F0 G)) v x
  | (.sl _ _ sz off len cap, some (cs, kd)), x, w' => ∃ (G : Nat → Option Obj) (b base : Nat) (a : Option Addr) (c' : Nat) (c : Array Value) (t : TypeId), x = .slice a len c' ∧ Zox w w' ∧ (∀ b o, G b = some o → w.heap.size ≤ b ∧ w'.heap[b]? = some o) ∧
      G b = none ∧ w.heap.size ≤ b ∧ w'.heap[b]? = some (.cells c t (0, 0)) ∧ base + cs.length ≤ c.size ∧ Zcv (bare fm (over w F0 G)) cs (fun j => c[base + j]?) ∧ Zak.pureL cs = true ∧ (kd = .fixed ∨ kd = .loose) ∧
      SlR (some (b, base, c.size)) sz off len cap cs.length a c' ∧ 0 < sz ∧ len ≤ c' ∧ (∀ c, cap = some c → c' = c) ∧ (0 < c' → a.isSome = true) ∧ off + len * sz ≤ cs.length
  | _, _, _ => False

theorem Zom {C : AC → Code → Prop} {F0 : Nat → Option Obj} {Y : Cx} {v : V} {x : Value} {q : V × Option (List V × Kd)} (h : Rel C ⟨w, F0⟩ Y H w') (hfm : Y.fm = fm) (hv : RV Y v x) (hq : Zdm v H = some q) : IsoP fm w F0 q x w' := by
  unfold Zdm at hq
  split at hq
  · rename_i v' out he
    simp only [Option.some.injEq] at hq
    subst hq
    unfold IsoP
    obtain ⟨Z, H1, v'', r, ws, a1, a2, a3, a4, a5, a6⟩ := Zgb 9 v Y H x _ _ h hv he
    obtain ⟨rfl, rfl⟩ := Zau a6
    refine ⟨fun b => if w.heap.size ≤ b then Z.F b else none, ⟨a3.keep, a3.size, a3.os, a3.tape, a3.out⟩, fun b o hb => ?_, a5.1, ?_⟩
    · simp only at hb
      split at hb
      · rename_i hle; exact ⟨hle, a3.frz b o hb⟩
      · cases hb
    · refine RV.pure (X := Z) (by rw [a1.le.fm]; exact hfm.symm) (fun b o _ hb => ?_) a4 a5.1
      show over w F0 (fun b => if w.heap.size ≤ b then Z.F b else none) b = _
      unfold over
      rcases a3.fnew b _ hb with h1 | h1
      · by_cases hlt : b < w.heap.size
        · rw [if_pos hlt]; exact h1
        · rw [if_neg hlt]; show (if w.heap.size ≤ b then Z.F b else none) = _; rw [if_pos (by omega)]; exact hb
      · have h1' : w.heap.size ≤ b := h1
        rw [if_neg (by omega)]; show (if w.heap.size ≤ b then Z.F b else none) = _; rw [if_pos h1']; exact hb
  · cases hq

theorem Zkt (hP : PR P fm AP) (hE : Zfa P fm E) {fr : Bool} {f : Nat} {args : List V} {xs : Array Value} {F0 : Nat → Option Obj} {q : V × Option (List V × Kd)} (hc : Zaq AP E fr f args = some q) (hF : ∀ b o, F0 b = some o → w.heap[b]? = some o)
    (ha : RL (bare fm F0) args xs.toList) (l : Option Nat) (m : Nat) : CallsIn (FF l) m P (fm f) xs w (fun e w' => ∃ x, e = .returned x ∧ IsoP fm w F0 q x w') := by
  unfold Zaq at hc
  split at hc
  · cases hc
  · rename_i fn hf
    split at hc
    · have key : ∀ ex s, (ex = Ex.normal ∨ ex = .ret) → E fn.body ⟨env0 fn.nt args, [], 0, none⟩ = some (ex, s) → (match resV s.env s.H fn.res with
          | some v => if fr then match v with
              | .sl i g sz off len cap => match getH s.H i g with
                | some (.cells cs kd) => match kd with
                  | .fixed | .loose => match runP (Zbg true 9 cs fun cs' => .ret (.agg cs')) s.H with
                    | some (.agg cs', H1, _) => if off + len * sz ≤ cs'.length ∧ warm H1 i g then some (.sl i g sz off len cap, some (cs', kd)) else none
                    | _ => none
                  | _ => Zdm v s.H
                | _ => none
              | _ => Zdm v s.H
            else Zdm v s.H
          | none => none) = some q → CallsIn (FF l) m P (fm f) xs w (fun e w' => ∃ x, e = .returned x ∧ IsoP fm w F0 q x w') := fun ex s hex he hr => by
        cases hv : resV s.env s.H fn.res with
        | none => rw [hv] at hr; cases hr
        | some v =>
          rw [hv] at hr
          refine (Zmd hP hE hf hex he hv (Ybc hF) rfl ha (fun _ _ hi => hi.elim) l m).mono fun e w' hpost => ?_
          obtain ⟨_, x, Y, rfl, hle, hrel, hrv, _⟩ := hpost
          refine ⟨x, rfl, ?_⟩
          have hfm : Y.fm = fm := hle.fm
          have plain : Zdm v s.H = some q → IsoP fm w F0 q x w' := Zom hrel hfm hrv
          simp only at hr
          split at hr
          · split at hr
            · rename_i i g sz off len cap
              split at hr
              · rename_i cs kd hg
                have own : (kd = .fixed ∨ kd = .loose) → (match runP (Zbg true 9 cs fun cs' => .ret (.agg cs')) s.H with
                    | some (.agg cs', H1, _) => if off + len * sz ≤ cs'.length ∧ warm H1 i g then some (V.sl i g sz off len cap, some (cs', kd)) else none
                    | _ => none) = some q → IsoP fm w F0 q x w' := fun hkd hr => by
                  have ho := Zco.1 hg
                  split at hr
                  · rename_i cs' H1' out hrun
                    split at hr
                    · rename_i hfit0
                      obtain ⟨hfit, hwarm⟩ := hfit0
                      simp only [Option.some.injEq] at hr
                      subst hr
                      have hkf : kd ≠ .froz := by rcases hkd with rfl | rfl <;> simp
                      cases hrv with
                      | sl _ _ _ _ _ _ a c' hgi hz hlc hcc haa hl =>
                      have hsl := hl cs.length (by rw [hrel.lv]; exact Zbl.2 ⟨_, ho, rfl⟩)
                      cases hm : Y.μ i with
                      | none =>
                        have hro := (hrel.obj _ _ _ ho).2
                        unfold RO at hro
                        rw [hm] at hro
                        rcases hkd with rfl | rfl <;> cases hro.1
                      | some p =>
                        obtain ⟨b, base, tot⟩ := p
                        obtain ⟨hL, hn, c, t, hb, hs, hlen, hfr⟩ := hrel.lies ho hm
                        have hYF : Y.F b = none := by rcases hfr with ⟨e, _⟩ | ⟨_, e⟩; exact absurd e hkf; exact e
                        -- the cells, frozen
                        have hxs : RL Y cs ((List.range cs.length).map fun j => (c[base + j]?).getD undef) := ⟨by simp, fun j u y hu hy => by
                          have hj := (List.getElem?_eq_some_iff.1 hu).1
                          rw [List.getElem?_map, List.getElem?_range hj] at hy
                          simp at hy
                          obtain ⟨_, z, q2, q3⟩ := hL j u hu
                          have q2' : c[base + j]? = some z := by simpa [World.cell?, hb] using q2
                          rw [q2'] at hy
                          simp at hy
                          subst hy; exact q3⟩
                        -- one by one, to keep that each is one cell
                        have each : ∃ (Z : Cx) (H1 : Heap) (cs2 : List V), Zeg Y Z ∧ Rel (CC P fm) ⟨w, F0⟩ Z H1 w' ∧ cs2.length = cs.length ∧ Zak.pureL cs2 = true ∧ (∀ (j : Nat) (u : V), cs2[j]? = some u → one u = true ∧ ∃ y, c[base + j]? = some y ∧ RV Z u y) ∧ cs2 = cs' ∧ H1 = H1' := by
                          unfold Zbg at hrun
                          split at hrun
                          · rename_i hpu
                            obtain ⟨e1, e2⟩ := Zau hrun
                            cases e1
                            exact ⟨Y, s.H, cs, Zeg.refl Y, hrel, rfl, hpu, fun j u hu => by
                              obtain ⟨q1, z, q2, q3⟩ := hL j u hu
                              exact ⟨q1, z, by simpa [World.cell?, hb] using q2, q3⟩, rfl, e2.symm⟩
                          · obtain ⟨Z, H1, cs2, r, ws, b1, b2, b3, b4, b5, b6, b7⟩ := Zew (Zgb 9) cs Y s.H (fun j => (c[base + j]?).getD undef) _ _ hrel (fun j u hu => by
                              obtain ⟨_, z, q2, q3⟩ := hL j u hu
                              have q2' : c[base + j]? = some z := by simpa [World.cell?, hb] using q2
                              rw [q2']; exact q3) hrun
                            obtain ⟨e1, e2⟩ := Zau b7
                            cases e1
                            refine ⟨Z, H1, cs', b1, b3, b4, b5, fun j u hu => ?_, rfl, e2.symm⟩
                            obtain ⟨q1, u0, q2, q3⟩ := b6 j u hu
                            obtain ⟨p1, z, p2, p3⟩ := hL j u0 q2
                            have p2' : c[base + j]? = some z := by simpa [World.cell?, hb] using p2
                            rw [p2'] at q1
                            exact ⟨q3.2.1 p1, z, p2', q1⟩
                        obtain ⟨Z, H1, cs2, z1, z2, z3, z4, z5, rfl, rfl⟩ := each
                        have hZF : Z.F b = none := by
                          unfold warm at hwarm
                          have hm' : Z.μ i = some (b, base, tot) := by rw [z1.μ]; exact hm
                          split at hwarm
                          · rename_i hg'
                            obtain ⟨_, _, _, _, _, _, _, hf'⟩ := z2.lies (Zco.1 hg') hm'
                            rcases hf' with ⟨e, _⟩ | ⟨_, e⟩; cases e; exact e
                          · rename_i hg'
                            obtain ⟨_, _, _, _, _, _, _, hf'⟩ := z2.lies (Zco.1 hg') hm'
                            rcases hf' with ⟨e, _⟩ | ⟨_, e⟩; cases e; exact e
                          · cases hwarm
                        have hbw : w.heap.size ≤ b := hrel.own i g _ b base tot ho hm hYF
                        refine ⟨fun k => if w.heap.size ≤ k then Z.F k else none, b, base, a, c', c, t, rfl, ⟨z2.keep, z2.size, z2.os, z2.tape, z2.out⟩, fun k o hk => ?_, by simp [hZF], hbw, hb, by rw [hs, z3]; exact hlen, fun j u hu => ?_, z4, hkd, by rw [hs, z3, ← hm]; exact hsl, hz, hlc, hcc, haa, hfit⟩
                        · simp only at hk
                          split at hk
                          · rename_i hle; exact ⟨hle, z2.frz k o hk⟩
                          · cases hk
                        · obtain ⟨q1, y, q2, q3⟩ := z5 j u hu
                          refine ⟨q1, y, q2, RV.pure (X := Z) (by rw [z1.le.fm]; exact hfm.symm) (fun k o1 _ hk => ?_) q3 (Zcd z4 hu)⟩
                          show over w F0 (fun k => if w.heap.size ≤ k then Z.F k else none) k = _
                          unfold over
                          rcases z2.fnew k _ hk with h1 | h1
                          · by_cases hlt : k < w.heap.size
                            · rw [if_pos hlt]; exact h1
                            · rw [if_neg hlt]; show (if w.heap.size ≤ k then Z.F k else none) = _; rw [if_pos (by omega)]; exact hk
                          · have h1' : w.heap.size ≤ k := h1
                            rw [if_neg (by omega)]; show (if w.heap.size ≤ k then Z.F k else none) = _; rw [if_pos h1']; exact hk
                    · cases hr
                  · cases hr
                cases kd with
                | fixed => exact own (.inl rfl) hr
                | loose => exact own (.inr rfl) hr
                | nilo => exact plain hr
                | froz => exact plain hr
              · cases hr
            · exact plain hr
          · exact plain hr
      split at hc
      · rename_i s he; exact key _ s (.inl rfl) he hc
      · rename_i s he; exact key _ s (.inr rfl) he hc
      · cases hc
    · cases hc
end Go.AM
