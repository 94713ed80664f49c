/- Freezing. -/
import Derived.Test.YteooegmokbbeoaaGauZ
import Derived.RangeFuncLeaves
import Derived.RangeFuncIn
import Derived.RangeFuncNested
import Derived.OrdersIn
import Derived.ControlIn
set_option linter.unusedSimpArgs false
set_option linter.unusedVariables false
namespace Go.AM
open Go
variable {C : AC → Code → Prop} {B : Base} {X : Cx} {H H' : Heap} {w w' : World} {P : Program} {fm : Nat → Nat}

/-- More is frozen; nothing else has changed. -/
structure Zeg (X Y : Cx) : Prop where
  le : X.le Y
  μ : Y.μ = X.μ
  iss : Y.iss = X.iss
  lv : Y.lv = X.lv
theorem Zeg.refl (X : Cx) : Zeg X X := ⟨Cx.le.refl X, rfl, rfl, rfl⟩
theorem Zeg.trans {X Y Z : Cx} (h : Zeg X Y) (k : Zeg Y Z) : Zeg X Z := ⟨h.le.trans k.le, k.μ.trans h.μ, k.iss.trans h.iss, k.lv.trans h.lv⟩

/-- A frozen value stands for the same. -/
def Zoh (v v' : V) : Prop := Zak v' = true ∧ (one v = true → one v' = true) ∧ (Zcc v = true → Zcc v' = true)

theorem Zge {v : V} (h : Zak v = true) : Zoh v v := ⟨h, _root_.id, _root_.id⟩

/-- What freezing one value gives, for good. -/
def Zvq (C : AC → Code → Prop) (B : Base) (w : World) (f : V → (V → Plan) → Plan) : Prop :=
  ∀ (v : V) (X : Cx) (H : Heap) (x : Value) (k : V → Plan) (out : V × Heap × List Nat × List Nat), Rel C B X H w → RV X v x → runP (f v k) H = some out →
    ∃ (Y : Cx) (H1 : Heap) (v' : V) (r ws : List Nat), Zeg X Y ∧ H1.length = H.length ∧ Rel C B Y H1 w ∧ RV Y v' x ∧ Zoh v v' ∧ runP (k v') H1 = some (out.1, out.2.1, r, ws)

theorem Zew {f : V → (V → Plan) → Plan} (hf : Zvq C B w f) : ∀ (cs : List V) (X : Cx) (H : Heap) (xs : Nat → Value) (k : List V → Plan) (out : V × Heap × List Nat × List Nat), Rel C B X H w →
    (∀ (i : Nat) (v : V), cs[i]? = some v → RV X v (xs i)) → runP (Zby f cs k) H = some out →
    ∃ (Y : Cx) (H1 : Heap) (cs' : List V) (r ws : List Nat), Zeg X Y ∧ H1.length = H.length ∧ Rel C B Y H1 w ∧ cs'.length = cs.length ∧ Zak.pureL cs' = true ∧
      (∀ (i : Nat) (v : V), cs'[i]? = some v → RV Y v (xs i) ∧ ∃ u, cs[i]? = some u ∧ Zoh u v) ∧ runP (k cs') H1 = some (out.1, out.2.1, r, ws)
  | [], X, H, xs, k, out, h, hc, hp => ⟨X, H, [], out.2.2.1, out.2.2.2, Zeg.refl X, rfl, h, rfl, rfl, fun i v hv => by simp at hv, hp⟩
  | c :: cs, X, H, xs, k, out, h, hc, hp => by
    obtain ⟨Y, H1, c', r, ws, a1, a2, a3, a4, a5, a6⟩ := hf c X H (xs 0) _ out h (hc 0 c rfl) hp
    obtain ⟨Z, H2, cs', r', ws', b1, b2, b3, b4, b5, b6, b7⟩ := Zew hf cs Y H1 (fun i => xs (i + 1)) _ _ a3 (fun i v hv => (hc (i + 1) v (by simpa using hv)).weak a1.le) a6
    refine ⟨Z, H2, c' :: cs', r', ws', a1.trans b1, b2.trans a2, b3, by simp [b4], by simp [Zak.pureL, a5.1, b5], fun i v hv => ?_, b7⟩
    cases i with
    | zero => simp at hv; subst hv; exact ⟨a4.weak b1.le, c, rfl, a5⟩
    | succ i => exact b6 i v (by simpa using hv)

theorem Zyd {cs : List V} {off n : Nat} (h : Zak.pureL cs = true) : Zak.pureL (cut cs off n) = true := Ztp fun v hv => by
  obtain ⟨i, hi⟩ := List.mem_iff_getElem?.1 hv
  exact Zcd h (Zec hi).2

/-- A slice of frozen cells. -/
theorem Yda {F : Nat → Option Obj} {b base sz off len c' : Nat} {cap : Option Nat} {cs : List V} {xs : Nat → Value} (hF : X.F = F) (hz : 0 < sz) (hp : Zak.pureL cs = true) (hle : off + len * sz ≤ cs.length) (hc : ∀ c, cap = some c → c' = c) (hlc : len ≤ c')
    (h : ∀ (i : Nat) (v : V), cs[i]? = some v → RV X v (xs i) ∧ one v = true ∧ Zjq F b (base + i) = some (xs i)) : RV X (.arr (cut cs off (len * sz)) sz len cap) (.slice (some ⟨b, base + off, none⟩) len c') := by
  subst hF
  refine .arr _ sz len cap b (base + off) c' (fun i => xs (off + i)) hz (Zyd hp) (Zbp hle) hc hlc (fun i v hv => ?_) fun i v hv => (h _ v (Zec hv).2).1
  obtain ⟨_, h1, h2⟩ := h _ v (Zec hv).2
  exact ⟨by rw [Nat.add_assoc]; exact h2, h1⟩
theorem Zxs {sz c' : Nat} {cap : Option Nat} {b o : Nat} (hz : 0 < sz) (hc : ∀ c, cap = some c → c' = c) : RV X (.arr [] sz 0 cap) (.slice (some ⟨b, o, none⟩) 0 c') :=
  .arr [] sz 0 cap b o c' (fun _ => undef) hz rfl (by simp) hc (by omega) (fun i v hv => by simp at hv) (fun i v hv => by simp at hv)

theorem Zgb : ∀ d : Nat, Zvq C B w (Zav true d)
  | 0 => fun v X H x k out h hx hp => by
    unfold Zav at hp
    split at hp
    · rename_i hpu
      exact ⟨X, H, v, out.2.2.1, out.2.2.2, Zeg.refl X, rfl, h, hx, Zge hpu, hp⟩
    · exact (Zaw hp).elim
  | d + 1 => fun v X H x k out h hx hp => by
    have ih := Zgb d
    unfold Zav at hp
    split at hp
    · rename_i hpu
      exact ⟨X, H, v, out.2.2.1, out.2.2.2, Zeg.refl X, rfl, h, hx, Zge hpu, hp⟩
    · rename_i hpu
      cases v <;> simp only at hp <;> (try exact (Zaw hp).elim)
      case sl id g sz off len cap =>
        obtain ⟨o, r1, ho, hp, _⟩ := Zdv hp
        cases o <;> (try exact (Zaw hp).elim)
        rename_i cs kd
        simp only at hp
        obtain ⟨hle, hp⟩ := Zbw hp
        have hp1 := hp
        clear hp
        cases hx with
        | sl _ _ _ _ _ _ a c' hg hz hlc hc ha hl =>
        have hsl := hl cs.length (by rw [h.lv]; exact Zbl.2 ⟨_, ho, rfl⟩)
        cases hm : X.μ id with
        | none =>
          have hro := (h.obj _ _ _ ho).2
          unfold RO at hro
          rw [hm] at hro
          obtain ⟨rfl, rfl⟩ := hro
          unfold SlR at hsl
          rw [hm] at hsl
          obtain ⟨rfl, _, rfl, rfl, _, _⟩ := hsl
          simp only [Zak.pureL, if_true, frzK] at hp1
          exact ⟨X, H, .nils, r1, out.2.2.2, Zeg.refl X, rfl, h, .nils, ⟨rfl, fun _ => rfl, fun _ => rfl⟩, hp1⟩
        | some q =>
          obtain ⟨b, base, tot⟩ := q
          obtain ⟨hL, hn, c, t, hb, hs, hlen, hfr⟩ := h.lies ho hm
          let xs : Nat → Value := fun i => (c[base + i]?).getD undef
          have hcx : ∀ (i : Nat) (v : V), cs[i]? = some v → RV X v (xs i) ∧ one v = true ∧ c[base + i]? = some (xs i) := fun i v hv => by
            obtain ⟨q1, y, q2, q3⟩ := hL i v hv
            have q2' : c[base + i]? = some y := by simpa [World.cell?, hb] using q2
            exact ⟨by simpa [xs, q2'] using q3, q1, by simp [xs, q2']⟩
          -- the cells, frozen
          have cells : ∃ (Y : Cx) (H1 : Heap) (cs' : List V) (r ws : List Nat), Zeg X Y ∧ H1.length = H.length ∧ Rel C B Y H1 w ∧ cs'.length = cs.length ∧ Zak.pureL cs' = true ∧
              (∀ (i : Nat) (v : V), cs'[i]? = some v → RV Y v (xs i) ∧ one v = true) ∧
              runP (frzK true id g sz off len cap kd k cs') H1 = some (out.1, out.2.1, r, ws) := by
            by_cases hpc : Zak.pureL cs = true
            · rw [if_pos hpc] at hp1
              exact ⟨X, H, cs, _, _, Zeg.refl X, rfl, h, rfl, hpc, fun i v hv => ⟨(hcx i v hv).1, (hcx i v hv).2.1⟩, hp1⟩
            · rw [if_neg hpc] at hp1
              obtain ⟨Y, H1, cs', r, ws, a1, a2, a3, a4, a5, a6, a7⟩ := Zew ih cs X H xs _ _ h (fun i v hv => (hcx i v hv).1) hp1
              refine ⟨Y, H1, cs', r, ws, a1, a2, a3, a4, a5, fun i v hv => ?_, a7⟩
              obtain ⟨q1, u, q2, q3⟩ := a6 i v hv
              exact ⟨q1, q3.2.1 (hcx i u q2).2.1⟩
          obtain ⟨Y, H1, cs', r, ws, a1, a2, a3, a4, a5, a6, a7⟩ := cells
          have hcb : ∀ (i : Nat) (v : V), cs'[i]? = some v → c[base + i]? = some (xs i) := fun i v hv => by
            have hi := (List.getElem?_eq_some_iff.1 hv).1
            exact (hcx i cs[i] (List.getElem?_eq_getElem (by omega))).2.2
          have hm' : Y.μ id = some (b, base, tot) := by rw [a1.μ]; exact hm
          -- the value
          have value : ∀ Z : Cx, Y.le Z → Z.F b = some (.cells c t (0, 0)) → RV Z (.arr (cut cs' off (len * sz)) sz len cap) (.slice a len c') := fun Z hZ hZF => by
            unfold SlR at hsl
            rw [hm] at hsl
            rcases hsl with ⟨rfl, t1, t2, t3, t4⟩ | ⟨⟨b', o', rfl⟩, rfl, rfl, _⟩
            · refine Yda (xs := xs) rfl hz a5 (by omega) hc hlc fun i v hv => ⟨(a6 i v hv).1.weak hZ, (a6 i v hv).2, ?_⟩
              simp only [Zjq, hZF]
              exact hcb i v hv
            · simp only [Nat.zero_mul, cut, List.take_zero]
              exact Zxs hz hc
          have ftz : Zoh (.sl id g sz off len cap) (.arr (cut cs' off (len * sz)) sz len cap) := ⟨by simp only [Zak], fun _ => rfl, fun _ => rfl⟩
          have hlvY : lvH H1 id g = some (.cells cs.length) := by
            rw [← a3.lv, a1.lv, h.lv]; exact Zbl.2 ⟨_, ho, rfl⟩
          obtain ⟨o1, ho1, hk1⟩ := Zbl.1 hlvY
          have frozen : kd ≠ .nilo → runP (.wr id (some (g, .cells cs' .froz)) (k (.arr (cut cs' off (len * sz)) sz len cap))) H1 = some (out.1, out.2.1, r, ws) →
              ∃ (Y : Cx) (H1 : Heap) (v' : V) (r ws : List Nat), Zeg X Y ∧ H1.length = H.length ∧ Rel C B Y H1 w ∧ RV Y v' (.slice a len c') ∧ Zoh (.sl id g sz off len cap) v' ∧ runP (k v') H1 = some (out.1, out.2.1, r, ws) := fun _ hp => by
            obtain ⟨ws1, hid, hp, _⟩ := Zcj hp
            cases o1 with
            | map es => simp [lkO] at hk1
            | loop _ _ _ _ _ _ _ => simp [lkO] at hk1
            | cells cs1 kd1 =>
              simp only [lkO, LK.cells.injEq] at hk1
              obtain ⟨_, _, c1, t1, hb1, _, _, hfr1⟩ := a3.lies ho1 hm'
              rw [hb] at hb1
              cases hb1
              obtain ⟨Z, z1, z2, z3, z4, z5, z6⟩ := a3.freeze (cs' := cs') (ob := .cells c t (0, 0)) ho1 (by omega) hm' (by rcases hfr1 with ⟨_, e⟩ | ⟨_, e⟩; exact .inr e; exact .inl e) hb (fun Z hZ hμ hZF => by
                unfold RO
                rw [hμ, hm']
                simp only
                refine ⟨by simp, c, t, hb, hs, by omega, fun i v hv => ⟨(a6 i v hv).2, xs i, hcb i v hv, (a6 i v hv).1.weak hZ⟩, .inl ⟨trivial, hZF⟩⟩)
              exact ⟨Z, _, _, r, ws1, a1.trans ⟨z1, z2, z3, z4⟩, by simp [a2], z6, value Z z1 z5, ftz, hp⟩
          cases kd with
          | nilo => exact absurd rfl hn
          | froz =>
            rcases hfr with ⟨_, hF⟩ | ⟨e, _⟩
            · exact ⟨Y, H1, _, r, ws, a1, a2, a3, value Y (Cx.le.refl Y) (a1.le.F _ _ hF), ftz, a7⟩
            · exact absurd rfl e
          | fixed => exact frozen (by simp) a7
          | loose => exact frozen (by simp) a7
      case fn f fst caps =>
        cases hx with
        | fn _ _ _ fs cs hfs hcs q1 q2 =>
        obtain ⟨Y, H1, fst', r, ws, a1, a2, a3, a4, a5, a6, a7⟩ := Zew ih fst X H (fun i => (fs[i]?).getD undef) _ _ h (fun i v hv => by
          have hi := (List.getElem?_eq_some_iff.1 hv).1
          have hx : fs[i]? = some fs[i] := Array.getElem?_eq_getElem (by omega)
          rw [hx]; exact q1 i v _ hv hx) hp
        obtain ⟨Z, H2, caps', r', ws', b1, b2, b3, b4, b5, b6, b7⟩ := Zew ih caps Y H1 (fun i => (cs[i]?).getD undef) _ _ a3 (fun i v hv => by
          have hi := (List.getElem?_eq_some_iff.1 hv).1
          have hx : cs[i]? = some cs[i] := Array.getElem?_eq_getElem (by omega)
          rw [hx]; exact (q2 i v _ hv hx).weak a1.le) a7
        have hfm' : Z.fm = X.fm := (a1.trans b1).le.fm
        refine ⟨Z, H2, .fn f fst' caps', r', ws', a1.trans b1, b2.trans a2, b3, ?_, ⟨by simp [Zak, a5, b5], fun _ => rfl, fun _ => rfl⟩, b7⟩
        rw [← hfm']
        refine .fn f fst' caps' fs cs (by omega) (by omega) (fun i v x hv hx => ?_) (fun i v x hv hx => ?_)
        · have := (a6 i v hv).1
          rw [hx] at this; exact this.weak b1.le
        · have := (b6 i v hv).1
          rw [hx] at this; exact this
      case agg cs =>
        cases hx with
        | agg _ xs hs h1 h2 =>
        obtain ⟨Y, H1, cs', r, ws, a1, a2, a3, a4, a5, a6, a7⟩ := Zew ih cs X H (fun i => (xs[i]?).getD undef) _ _ h (fun i v hv => by
          have hi := (List.getElem?_eq_some_iff.1 hv).1
          have hx : xs[i]? = some xs[i] := Array.getElem?_eq_getElem (by omega)
          rw [hx]; exact h2 i v _ hv hx) hp
        refine ⟨Y, H1, .agg cs', r, ws, a1, a2, a3, .agg cs' xs (by omega) (fun i v hv => ?_) (fun i v x hv hx => ?_), ⟨by simpa [Zak] using a5, fun e => by simp [one] at e, fun _ => rfl⟩, a7⟩
        · obtain ⟨_, u, q2, q3⟩ := a6 i v hv
          exact q3.2.1 (h1 i u q2)
        · have := (a6 i v hv).1
          rw [hx] at this; exact this
      case tup cs =>
        cases hx with
        | tup _ xs hs h2 =>
        obtain ⟨Y, H1, cs', r, ws, a1, a2, a3, a4, a5, a6, a7⟩ := Zew ih cs X H (fun i => (xs[i]?).getD undef) _ _ h (fun i v hv => by
          have hi := (List.getElem?_eq_some_iff.1 hv).1
          have hx : xs[i]? = some xs[i] := Array.getElem?_eq_getElem (by omega)
          rw [hx]; exact h2 i v _ hv hx) hp
        refine ⟨Y, H1, .tup cs', r, ws, a1, a2, a3, .tup cs' xs (by omega) (fun i v x hv hx => ?_), ⟨by simpa [Zak] using a5, fun e => by simp [one] at e, fun e => by simp [Zcc] at e⟩, a7⟩
        have := (a6 i v hv).1
        rw [hx] at this; exact this

theorem Zrp {d : Nat} {cs : List V} {xs : List Value} {k : List V → Plan} {v : V} {r ws : List Nat} (h : Rel C B X H w) (hc : RL X cs xs) (hp : runP (Zbg true d cs k) H = some (v, H', r, ws)) :
    ∃ (Y : Cx) (H1 : Heap) (cs' : List V) (r' ws' : List Nat), Zeg X Y ∧ H1.length = H.length ∧ Rel C B Y H1 w ∧ RL Y cs' xs ∧ Zak.pureL cs' = true ∧ runP (k cs') H1 = some (v, H', r', ws') := by
  unfold Zbg at hp
  split at hp
  · rename_i hpu
    exact ⟨X, H, cs, r, ws, Zeg.refl X, rfl, h, hc, hpu, hp⟩
  · obtain ⟨Y, H1, cs', r', ws', a1, a2, a3, a4, a5, a6, a7⟩ := Zew (Zgb d) cs X H (fun i => (xs[i]?).getD undef) _ _ h (fun i v hv => by
      have hi := (List.getElem?_eq_some_iff.1 hv).1
      have hlt : i < xs.length := by have := hc.1; omega
      have hx : xs[i]? = some xs[i] := List.getElem?_eq_getElem hlt
      rw [hx]; exact hc.2 i v _ hv hx) hp
    refine ⟨Y, H1, cs', r', ws', a1, a2, a3, ⟨by rw [hc.1, a4], fun i v x hv hx => ?_⟩, a5, a7⟩
    have := (a6 i v hv).1
    rw [hx] at this; exact this
end Go.AM

set_option linter.unusedSimpArgs false
set_option linter.unusedVariables false
namespace Go.AM
open Go

/-! ### The check of code -/
section
variable (P : Program) (fm : Nat → Nat)
def Zml : ARes → ResultVar → Bool
  | .tmp t, .tmp t' => t == t'
  | .cell t n ag, .cell a ty => t == a && szB P ty n && agB P ty ag
  | _, _ => false
def Zfz : List ARes → List ResultVar → Bool
  | [], [] => true
  | r :: rs, x :: xs => Zml P r x && Zfz rs xs
  | _, _ => false
def grdB (ops : Array Oper) : Option (Nat × Bool) → Option (Nat × Bool) → Bool
  | none, none => true
  | some (t, b), some (j, b') => b == b' && (match ops[j]? with | some o => o.dst == some t | none => false)
  | _, _ => false
/-- The operations of a region: 'at': the numbers given out so far. -/
def Zhm (ops : Array Oper) (tot : Nat) : Nat → List RS → List Oper → Bool
  | k, [], [] => decide (k ≤ tot)
  | k, r :: rs, o :: os => r.dst == o.dst && Ziw P fm r.op o.op && grdB ops r.grd o.guard && r.at_ == k && Zhm ops tot (k + room r.own r.op) rs os
  | _, _, _ => false
/-- What an operation is said to depend on, it depends on; it depends on earlier ones alone. -/
def depB (D : List (List Nat)) : Nat → List Oper → Bool
  | _, [] => true
  | i, o :: os => (D.getD i []).all (fun j => o.after.any fun e => Region.binds .any e && (e.on == j || (D.getD e.on []).contains j)) && o.after.all (fun e => !Region.binds .any e || decide (e.on < i)) && depB D (i + 1) os
def chkC : AC → Code → Bool
  | .skip, .skip | .skip, .label _ | .ret, .ret => true
  | .reg tot rs, .region _ ops dr => !dr && Zhm P fm ops tot 0 rs ops.toList
  | .regd dep tot rs, .region _ ops dr => dr && Zhm P fm ops tot 0 rs ops.toList && depB dep 0 ops.toList
  | .seq a b, .seq c d => chkC a c && chkC b d
  | .cond x a b, .cond y c d => chkO fm x y && chkC a c && chkC b d
  | .block id a, .block id' c => id == id' && chkC a c
  | .loop _ a, .loop c => chkC a c
  | .exit id, .exit id' => id == id'
  | .rngf _ f ps asg body, .rangeFunc g ps' as bd => chkO fm f g && ps == ps'.toList && chkC asg as && chkC body bd
  | _, _ => false
end

/-- What code corresponds to what. -/
def CC (P : Program) (fm : Nat → Nat) : AC → Code → Prop := fun a c => chkC P fm a c = true

/-- The abstract program is the program. -/
structure PR (P : Program) (fm : Nat → Nat) (AP : Zce) : Prop where
  fn : ∀ f fn, AP f = some fn → ∃ gf code, P.funcs[fm f]? = some gf ∧ gf.body = some code ∧ gf.name ≠ "runtime.NumGoroutine" ∧ gf.ntmps = fn.nt ∧ chkC P fm fn.body code = true ∧ Zfz P fn.res gf.results.toList = true
  mixed : P.follows .mixedOrders = true

/-- The fence: every function; in a round, or not. -/
def FF : Option Nat → Fence
  | none => Fence.wide
  | some l => Fence.wide.inRound l
theorem Zqm (l : Option Nat) (f : FuncId) : (FF l).fn f := by cases l <;> trivial
theorem Yai (l : Option Nat) : (FF l).round = l := by cases l <;> rfl
theorem Zkn (l : Option Nat) : (FF l).depth = none := by cases l <;> rfl

section
variable {B : Base} {X : Cx} {H H' : Heap} {w w' : World} {P : Program} {fm : Nat → Nat}

/-- The deferred marks of an activation. -/
def DefR (B : Base) (D : Nat → Option Obj) (X : Cx) (ds : List Deferred) : Prop :=
  ∃ rs : List Nat, ds = rs.map (fun r => { target := .collected r, args := #[] }) ∧ rs.Nodup ∧ ∀ r ∈ rs, X.F r = some (.deferred (some [])) ∧ D r = none ∧ B.w0.heap.size ≤ r
theorem DefR.weak {D : Nat → Option Obj} {Y : Cx} {ds : List Deferred} (h : DefR B D X ds) (hle : X.le Y) : DefR B D Y ds := by
  obtain ⟨rs, h1, h2, h3⟩ := h
  exact ⟨rs, h1, h2, fun r hr => ⟨hle.F _ _ (h3 r hr).1, (h3 r hr).2⟩⟩

def RdR (B : Base) (D : Nat → Option Obj) (X : Cx) (rd : Option (Nat × Nat)) (l : Option Nat) (ds : List Deferred) : Prop :=
  match rd, l with
  | none, none => DefR B D X ds
  | some (id, g), some b => RV X (.yld id g) (.func (.yield b) #[] #[]) ∧ ds = []
  | _, _ => False
theorem RdR.weak {D : Nat → Option Obj} {Y : Cx} {rd : Option (Nat × Nat)} {l : Option Nat} {ds : List Deferred} (h : RdR B D X rd l ds) (hle : X.le Y) : RdR B D Y rd l ds := by
  unfold RdR at *
  split at h
  · exact h.weak hle
  · exact ⟨h.1.weak hle, h.2⟩
  · exact h.elim

structure StR (P : Program) (fm : Nat → Nat) (B : Base) (D : Nat → Option Obj) (X : Cx) (s : St) (w : World) (a : Act) (l : Option Nat) : Prop where
  rel : Rel (CC P fm) B X s.H w
  fm : X.fm = fm
  env : EnvR X s.env a.tmps
  iss : ∀ i k, X.iss i k → k < s.γ
  rd : RdR B D X s.rd l a.defers
  d : ∀ b o, D b = some o → X.F b = some o

def exR : Ex → Exit → Prop
  | .normal, .normal => True
  | .exit i, .exit j => i = j
  | .ret, .ret => True
  | _, _ => False

def Zhn (P : Program) (fm : Nat → Nat) (B : Base) (D : Nat → Option Obj) (X : Cx) (s s' : St) (l : Option Nat) (ex : Ex) : Exit → Act → World → Prop :=
  fun e a w => exR ex e ∧ s'.rd = s.rd ∧ s.γ ≤ s'.γ ∧ ∃ Y, X.le Y ∧ (∀ i k, Y.iss i k → X.iss i k ∨ s.γ ≤ k) ∧ StR P fm B D Y s' w a l

def Zfa (P : Program) (fm : Nat → Nat) (E : AC → St → Option (Ex × St)) : Prop :=
  ∀ (c : AC) (code : Code) (s s' : St) (ex : Ex), E c s = some (ex, s') → chkC P fm c code = true → ∀ (B : Base) (D : Nat → Option Obj) (X : Cx) (w : World) (a : Act) (l : Option Nat) (m : Nat),
    StR P fm B D X s w a l → code.wpIn (FF l) m P (Zhn P fm B D X s s' l ex) a w

/-! ### The environment -/
theorem Zik : ∀ (e : List V) (t : Nat), getE e t = (e[t]?).getD .junk
  | [], t => by simp [getE]
  | x :: xs, 0 => by simp [getE]
  | x :: xs, t + 1 => by simp [getE, Zik xs t]
theorem Ztg {e : List V} {d t : Nat} {v : V} : getE (putE e d v) t = if t = d ∧ d < e.length then v else getE e t := by
  rw [Zik, Zik, putE, List.getElem?_set]
  by_cases h : d = t
  · subst h
    by_cases hl : d < e.length
    · simp [hl]
    · simp [hl]
  · have : ¬ t = d := fun e => h e.symm
    simp [h, this]
theorem EnvR.put {e : List V} {a : Act} {d : Option Nat} {v : V} {x : Value} (h : EnvR X e a.tmps) (hv : RV X v x) : EnvR X (putO e d v) (a.put d x).tmps := by
  cases d with
  | none => exact h
  | some d =>
    refine ⟨by simp [Act.put, putO, putE, h.1], fun t => ?_⟩
    have h2 := h.2 t
    have hsz := h.1
    simp only [Act.put, putO, Ztg]
    by_cases ht : t = d ∧ d < e.length
    · obtain ⟨rfl, hl⟩ := ht
      simp [hl, Array.getD_eq_getD_getElem?, Array.getElem?_setIfInBounds, hsz, hv]
    · rw [if_neg ht]
      have : (a.tmps.setIfInBounds d x).getD t undef = a.tmps.getD t undef := by
        rw [Array.getD_eq_getD_getElem?, Array.getD_eq_getD_getElem?, Array.getElem?_setIfInBounds]
        by_cases e1 : d = t
        · subst e1
          have : ¬ d < e.length := fun hh => ht ⟨rfl, hh⟩
          simp [hsz, this]
        · simp [e1]
      rw [this]; exact h2
theorem Zgx (a : Act) (d : Option Nat) (v : Value) : (a.put d v).defers = a.defers := by cases d <;> rfl
theorem EnvR.start {args : List V} {xs : Array Value} {nt : Nat} (h : RL X args xs.toList) : EnvR X (env0 nt args) (xs ++ Array.replicate (nt - xs.size) undef) := by
  have hl : xs.size = args.length := by simpa using h.1
  refine ⟨by simp [env0, hl], fun t => ?_⟩
  rw [Zik, env0, List.getElem?_append]
  split
  · rename_i hlt
    have e1 : args[t]? = some args[t] := List.getElem?_eq_getElem hlt
    have e2 : xs[t]? = some xs[t] := Array.getElem?_eq_getElem (by omega)
    rw [e1, Array.getD_eq_getD_getElem?, Array.getElem?_append_left (by omega), e2]
    exact h.2 t _ _ e1 (by rw [Array.getElem?_toList]; exact e2)
  · rw [List.getElem?_replicate]
    split <;> exact .junk _

/-! ### Blocks that no object owns -/
/-- Another world, of which the old blocks are the same; more is frozen among its new blocks. -/
theorem Rel.after {C : AC → Code → Prop} {G : Nat → Option Obj} (h : Rel C B X H w) (hk : ∀ b, b < w.heap.size → w'.heap[b]? = w.heap[b]?) (hs : w.heap.size ≤ w'.heap.size) (hos : w'.os = w.os) (ht : w'.tape = w.tape) (ho : w'.output = w.output)
    (hG : ∀ b o, G b = some o → w.heap.size ≤ b ∧ w'.heap[b]? = some o) :
    X.le { X with F := fun b => if b < w.heap.size then X.F b else G b } ∧ Rel C B { X with F := fun b => if b < w.heap.size then X.F b else G b } H w' := by
  have hold : ∀ b o, X.F b = some o → b < w.heap.size := fun b o hb => (Array.getElem?_eq_some_iff.1 (h.frz b o hb)).1
  have hle : X.le { X with F := fun b => if b < w.heap.size then X.F b else G b } := ⟨rfl, fun b o hb => by simp [hold b o hb, hb], fun _ _ hi => hi, fun _ _ _ _ hz => ⟨hz, rfl⟩⟩
  refine ⟨hle, h.lv, fun b o hb => ?_, fun id g o hi => ?_, ?_, ?_, fun b hb => (hk b (Nat.lt_of_lt_of_le hb h.size)).trans (h.keep b hb), fun b o hb => ?_, hos.trans h.os, ht.trans h.tape, ho.trans h.out, Nat.le_trans h.size hs⟩
  · simp only at hb
    split at hb
    · rename_i hlt; rw [hk b hlt]; exact h.frz b o hb
    · exact (hG b o hb).2
  · obtain ⟨h1, h2⟩ := h.obj id g o hi
    refine ⟨h1, RO.weak hle rfl (fun b n m hm hf => ?_) (fun b n m o' hm hb => ?_) h2⟩
    · obtain ⟨ob, hob⟩ := h2.block hm
      have := (Array.getElem?_eq_some_iff.1 hob).1
      simp [this, hf]
    · rw [hk b (Array.getElem?_eq_some_iff.1 hb).1]; exact hb
  · intro i j gi gj oi oj b n m n' m' hi hj hmi hmj hF
    simp only at hF
    obtain ⟨ob, hob⟩ := (h.obj i gi oi hi).2.block hmi
    have := (Array.getElem?_eq_some_iff.1 hob).1
    rw [if_pos this] at hF
    exact h.inj i j gi gj oi oj b n m n' m' hi hj hmi hmj hF
  · intro i k o b n m hi hm hF
    obtain ⟨ob, hob⟩ := (h.obj i k o hi).2.block hm
    have := (Array.getElem?_eq_some_iff.1 hob).1
    simp only [this, if_true] at hF
    exact h.own i k o b n m hi hm hF
  · simp only at hb
    split at hb
    · exact h.fnew b o hb
    · exact .inr (Nat.le_trans h.size (hG b o hb).1)

/-- A block that no live object has, that is not frozen, and that is the activation's own, changes. -/
theorem Rel.dead {C : AC → Code → Prop} {b : Nat} {ob : Obj} (h : Rel C B X H w) (hF : X.F b = none) (hb : B.w0.heap.size ≤ b) (hobj : ∀ id g o n m, H[id]? = some (some (g, o)) → X.μ id = some (b, n, m) → False) : Rel C B X H (w.putObj b ob) := by
  have hoth : ∀ k, k ≠ b → (w.putObj b ob).heap[k]? = w.heap[k]? := fun k hk => World.putObj_heap_other hk
  refine ⟨h.lv, fun k o hk => ?_, fun id g o hi => ?_, h.inj, h.own, fun k hk => ?_, h.fnew, h.os, h.tape, h.out, by simp only [World.putObj, Array.size_setIfInBounds]; exact h.size⟩
  · rw [hoth k (fun e => by subst e; rw [hF] at hk; cases hk)]; exact h.frz k o hk
  · obtain ⟨h1, h2⟩ := h.obj id g o hi
    refine ⟨h1, RO.weak (Cx.le.refl X) rfl (fun _ _ _ _ hf => hf) (fun k n m o' hm hk => ?_) h2⟩
    rw [hoth k (fun e => hobj id g o n m hi (by rw [← e]; exact hm))]; exact hk
  · rw [hoth k (by omega)]; exact h.keep k hk

/-- What is frozen grows by a new block. -/
theorem Rel.allocFrozen {C : AC → Code → Prop} {ob : Obj} (h : Rel C B X H w) :
    X.le { X with F := fun b => if b < w.heap.size then X.F b else if b = w.heap.size then some ob else none } ∧ Rel C B { X with F := fun b => if b < w.heap.size then X.F b else if b = w.heap.size then some ob else none } H (w.alloc ob) :=
  h.after (G := fun b => if b = w.heap.size then some ob else none) (fun b hb => by first | exact heap_alloc_old w ob b hb | exact heap_alloc_old w ob hb) (by simp) rfl rfl rfl (fun b o hb => by
    split at hb
    · rename_i e; subst e; cases hb; exact ⟨Nat.le_refl _, heap_alloc_new w ob⟩
    · cases hb)

/-- The marks are taken. -/
theorem Rel.unmark {C : AC → Code → Prop} {rs : List Nat} (h : Rel C B X H w) (hr : ∀ r ∈ rs, X.F r = some (.deferred (some [])) ∧ B.w0.heap.size ≤ r) (hw : ∀ b, b ∉ rs → w'.heap[b]? = w.heap[b]?) (hs : w'.heap.size = w.heap.size) (hos : w'.os = w.os) (ht : w'.tape = w.tape) (ho : w'.output = w.output) :
    X.lec { X with F := fun b => if b ∈ rs then none else X.F b } ∧ Rel C B { X with F := fun b => if b ∈ rs then none else X.F b } H w' := by
  have hle : X.lec { X with F := fun b => if b ∈ rs then none else X.F b } := ⟨rfl, fun b o ho hb => by
    have : b ∉ rs := fun hm => by rw [(hr b hm).1] at hb; cases hb; cases ho
    simp [this, hb], fun _ _ hi => hi, fun _ _ _ _ hz => ⟨hz, rfl⟩⟩
  -- an object's block is no mark
  have hno : ∀ id g o b n m, H[id]? = some (some (g, o)) → X.μ id = some (b, n, m) → b ∉ rs := fun id g o b n m hi hm hb => by
    have hF := (hr b hb).1
    have hro := (h.obj id g o hi).2
    cases o with
    | cells cs kd =>
      unfold RO at hro
      rw [hm] at hro
      obtain ⟨_, c, t, _, _, _, _, hf⟩ := hro
      rcases hf with ⟨_, hf⟩ | ⟨_, hf⟩ <;> rw [hF] at hf <;> cases hf
    | map es =>
      obtain ⟨b', _, _, _, _, hm', hf, _⟩ := hro
      rw [hm] at hm'; cases hm'; rw [hF] at hf; cases hf
    | loop st pend keep env ps asg body =>
      obtain ⟨b', _, _, _, hm', hf, _⟩ := hro
      rw [hm] at hm'; cases hm'; rw [hF] at hf; cases hf
  refine ⟨hle, h.lv, fun b o hb => ?_, fun id g o hi => ?_, ?_, ?_, fun b hb => ?_, fun b o hb => ?_, hos.trans h.os, ht.trans h.tape, ho.trans h.out, by rw [hs]; exact h.size⟩
  · simp only at hb
    split at hb
    · cases hb
    · rename_i hn; rw [hw b hn]; exact h.frz b o hb
  · obtain ⟨h1, h2⟩ := h.obj id g o hi
    refine ⟨h1, RO.weakc hle rfl (fun b n m hm hf => by simp only; split <;> simp [hf]) (fun b n m o' hm hb => ?_) h2⟩
    rw [hw b (hno id g o b n m hi hm)]; exact hb
  · intro i j gi gj oi oj b n m n' m' hi hj hmi hmj hF
    simp only [hno i gi oi b n m hi hmi, if_false] at hF
    exact h.inj i j gi gj oi oj b n m n' m' hi hj hmi hmj hF
  · intro i k o b n m hi hm hF
    simp only [hno i k o b n m hi hm, if_false] at hF
    exact h.own i k o b n m hi hm hF
  · rw [hw b (fun hm => by have := (hr b hm).2; omega)]; exact h.keep b hb
  · simp only at hb
    split at hb
    · cases hb
    · exact h.fnew b o hb
end
end Go.AM

set_option linter.unusedSimpArgs false
set_option linter.unusedVariables false
namespace Go.AM
open Go
variable {B : Base} {X : Cx} {H H' : Heap} {w w' : World} {P : Program} {fm : Nat → Nat} {AP : Zce} {E : AC → St → Option (Ex × St)}

/-! ### Results -/
def resM (tmps : Array Value) : ResultVar → Sem Value
  | .tmp t => pure (tmps.getD t undef)
  | .cell a t => do loadVar t (← asAddr (tmps.getD a undef))
theorem Ydk {C : AC → Code → Prop} {e : List V} {tmps : Array Value} {r : ARes} {q : ResultVar} {v : V} (h : Rel C B X H w) (he : EnvR X e tmps) (hk : Zml P r q = true) (hr : Zjt e H r = some v) :
    ∃ x, (resM tmps q).run P w = .ok x w ∧ RV X v x := by
  cases r with
  | tmp t =>
    cases q with
    | tmp t' =>
      simp only [Zml, beq_iff_eq] at hk
      subst hk
      simp only [Zjt, Option.some.injEq] at hr
      subst hr
      exact ⟨_, rfl, he.2 t⟩
    | cell a t' => simp [Zml] at hk
  | cell t n ag =>
    cases q with
    | tmp t' => simp [Zml] at hk
    | cell a ty =>
      simp only [Zml, Bool.and_eq_true, beq_iff_eq] at hk
      obtain ⟨⟨rfl, hsz⟩, hag⟩ := hk
      have hx := he.2 t
      simp only [Zjt] at hr
      split at hr
      · rename_i i g off hv
        rw [hv] at hx
        split at hr
        · rename_i cs kd hg
          split at hr
          · rename_i hle
            have ho := Zco.1 hg
            generalize hq : tmps.getD t undef = y at hx
            cases hx with
            | ptr _ _ _ a' hgi hl =>
            obtain ⟨b, base, tot, hm, rfl⟩ := hl cs.length (by rw [h.lv]; exact Zbl.2 ⟨_, ho, rfl⟩)
            obtain ⟨x, hx, hrv⟩ := Zne (P := P) ((h.lies ho hm).1.cut off n) (Zbp hle) hsz hag hr
            exact ⟨x, by simp only [resM, hq, asAddr, Sem.run_bind, Sem.run_pure, Result.andThen_ok]; exact hx, hrv⟩
          · cases hr
        · cases hr
      · cases hr
theorem Zse {C : AC → Code → Prop} {e : List V} {tmps : Array Value} (h : Rel C B X H w) (he : EnvR X e tmps) : ∀ {rs : List ARes} {qs : List ResultVar} {vs : List V}, Zfz P rs qs = true → resL e H rs = some vs →
    ∃ xs : List Value, (qs.mapM (resM tmps)).run P w = .ok xs w ∧ RL X vs xs
  | [], [], vs, _, hr => by
    simp only [resL, Option.some.injEq] at hr
    subst hr
    exact ⟨[], by simp, rfl, by simp⟩
  | [], _ :: _, _, hk, _ => by simp [Zfz] at hk
  | _ :: _, [], _, hk, _ => by simp [Zfz] at hk
  | r :: rs, q :: qs, vs, hk, hr => by
    simp only [Zfz, Bool.and_eq_true] at hk
    simp only [resL] at hr
    split at hr
    · rename_i v hv
      cases hrs : resL e H rs with
      | none => rw [hrs] at hr; simp at hr
      | some vs' =>
        rw [hrs] at hr
        simp only [Option.map_some, Option.some.injEq] at hr
        subst hr
        obtain ⟨x, h1, h2⟩ := Ydk (P := P) h he hk.1 hv
        obtain ⟨xs, h3, h4⟩ := Zse h he hk.2 hrs
        refine ⟨x :: xs, ?_, by simp [h4.1], fun i v y hv hy => ?_⟩
        · simp only [List.mapM_cons, Sem.run_bind, h1, Result.andThen_ok, h3, Sem.run_pure]
        · cases i with
          | zero => simp at hv hy; subst hv hy; exact h2
          | succ i => exact h4.2 i v y (by simpa using hv) (by simpa using hy)
    · cases hr
theorem Zrq {C : AC → Code → Prop} {gf : Func} {res : List ARes} {e : List V} {tmps : Array Value} {v : V} (h : Rel C B X H w) (he : EnvR X e tmps) (hk : Zfz P res gf.results.toList = true) (hr : resV e H res = some v) :
    ∃ x, (results gf tmps).run P w = .ok x w ∧ RV X v x := by
  unfold resV at hr
  cases hrs : resL e H res with
  | none => rw [hrs] at hr; simp at hr
  | some vs =>
    obtain ⟨xs, h1, h2⟩ := Zse (P := P) h he hk hrs
    have hrun : (results gf tmps).run P w = .ok (if h : xs.toArray.size = 1 then xs.toArray[0] else .tuple xs.toArray) w := by
      have e1 : results gf tmps = (do
          let vs ← gf.results.mapM (resM tmps)
          pure (if h : vs.size = 1 then vs[0] else .tuple vs)) := rfl
      rw [e1, Array.mapM_eq_mapM_toList]
      simp only [Sem.run_bind, Sem.run_map, h1, Result.andThen_ok, Sem.run_pure]
    rw [hrs] at hr
    refine ⟨_, hrun, ?_⟩
    match vs, hr with
    | [u], hr =>
      simp only [Option.some.injEq] at hr
      subst hr
      match xs, h2 with
      | [x], h2 => exact h2.2 0 u x rfl rfl
      | [], h2 => have := h2.1; simp at this
      | _ :: _ :: _, h2 => have := h2.1; simp at this
    | [], hr =>
      simp only [Option.some.injEq] at hr
      subst hr
      rw [dif_neg (by have := h2.1; simp at this; simp [this])]
      exact .tup [] _ (by simpa using h2.1) (fun i v x hv _ => by simp at hv)
    | a :: b :: l, hr =>
      simp only [Option.some.injEq] at hr
      subst hr
      rw [dif_neg (by have := h2.1; simp at this; simp [this])]
      exact .tup _ _ (by simpa using h2.1) (fun i v x hv hx => h2.2 i v x hv (by simpa using hx))

/-! ### The way out -/
def markD (r : Nat) : Deferred := { target := .collected r, args := #[] }
theorem Zjz {F : Fence} {n : Nat} {gf : Func} {tmps : Array Value} {R : Ending → World → Prop} : ∀ (rs : List Nat) (w : World), rs.Nodup → (∀ r ∈ rs, w.heap[r]? = some (.deferred (some []))) →
    (∀ w' : World, (∀ b, b ∉ rs → w'.heap[b]? = w.heap[b]?) → w'.heap.size = w.heap.size → w'.os = w.os → w'.tape = w.tape → w'.output = w.output → ∃ v, (results gf tmps).run P w' = .ok v w' ∧ R (.returned v) w') →
    LeavesInM F n P gf tmps R (rs.map markD) .returning w
  | [], w, _, _, h => h w (fun _ _ => rfl) rfl rfl rfl rfl
  | r :: rs, w, hn, hw, h => by
    obtain ⟨hr, hn'⟩ := List.nodup_cons.1 hn
    refine ⟨by simp, .inl ⟨r, w.putObj r (.deferred none), rfl, run_takeDeferred (hw r (by simp)), ?_⟩⟩
    refine Zjz rs _ hn' (fun q hq => ?_) fun w' h1 h2 h3 h4 h5 => h w' (fun b hb => ?_) (by rw [h2]; simp [World.putObj]) h3 h4 h5
    · rw [World.putObj_heap_other (by rintro rfl; exact hr hq)]
      exact hw q (by simp [hq])
    · rw [h1 b (by simp at hb; exact hb.2), World.putObj_heap_other (by simp at hb; exact hb.1)]

/-- What a body's end gives. -/
def RetP (P : Program) (fm : Nat → Nat) (B : Base) (X : Cx) (v : V) (H' : Heap) (γ γ' : Nat) : Ending → World → Prop :=
  fun e w' => γ ≤ γ' ∧ ∃ x Y, e = .returned x ∧ X.le Y ∧ Rel (CC P fm) B Y H' w' ∧ RV Y v x ∧ (∀ i k, Y.iss i k → k < γ') ∧ ∀ i k, Y.iss i k → X.iss i k ∨ γ ≤ k

theorem CallsIn.anyRound {l : Option Nat} {n : Nat} {f : FuncId} {args : Array Value} {R : Ending → World → Prop} (h : CallsIn (FF none) n P f args w R) : CallsIn (FF l) n P f args w R := by
  cases l with
  | none => exact h
  | some l => exact CallsIn.inRound l h

theorem Zmd (hP : PR P fm AP) (hE : Zfa P fm E) {f : Nat} {fn : AFun} {args : List V} {xs : Array Value} {γ : Nat} {ex : Ex} {s : St} {v : V} (hf : AP f = some fn)
    (hex : ex = .normal ∨ ex = .ret) (he : E fn.body ⟨env0 fn.nt args, H, γ, none⟩ = some (ex, s)) (hv : resV s.env s.H fn.res = some v) (h : Rel (CC P fm) B X H w) (hfm : X.fm = fm) (ha : RL X args xs.toList) (hi : ∀ i k, X.iss i k → k < γ)
    (l : Option Nat) (m : Nat) : CallsIn (FF l) m P (fm f) xs w (RetP P fm B X v s.H γ s.γ) := by
  obtain ⟨gf, code, h1, h2, h3, h4, h5, h6⟩ := hP.fn f fn hf
  refine CallsIn.anyRound (callsIn_of_wp_marks h1 h2 (Zqm none _) ?_)
  have hs : StR P fm B X.F X ⟨env0 fn.nt args, H, γ, none⟩ w { tmps := xs ++ Array.replicate (gf.ntmps - xs.size) undef, defers := [] } none :=
    ⟨h, hfm, by rw [h4]; exact EnvR.start ha, hi, ⟨[], rfl, List.nodup_nil, by simp⟩, fun _ _ hb => hb⟩
  refine wpIn_mono (hE _ _ _ _ _ he h5 B X.F X w _ none m hs) fun e a w' hpost => ?_
  obtain ⟨hx, hrd, hγ, Y, hle, hnew, hst⟩ := hpost
  have hrd' := hst.rd
  rw [hrd] at hrd'
  obtain ⟨rs, hds, hnd, hrs⟩ := hrd'
  have main : LeavesInM (FF none) m P gf a.tmps (RetP P fm B X v s.H γ s.γ) a.defers .returning w' := by
    rw [hds]
    refine Zjz rs w' hnd (fun r hr => hst.rel.frz _ _ (hrs r hr).1) fun w'' k1 k2 k3 k4 k5 => ?_
    obtain ⟨hlec, hrel⟩ := hst.rel.unmark (rs := rs) (fun r hr => ⟨(hrs r hr).1, (hrs r hr).2.2⟩) k1 k2 k3 k4 k5
    obtain ⟨x, r1, r2⟩ := Zrq (P := P) hrel (hst.env.weakc hlec) h6 hv
    refine ⟨x, r1, hγ, x, _, rfl, ?_, hrel, r2, hst.iss, hnew⟩
    refine ⟨hle.fm, fun b o hb => ?_, hle.iss, hle.lv⟩
    have : b ∉ rs := fun hm => by have := (hrs b hm).2.1; rw [hb] at this; cases this
    simp [this, hle.F b o hb]
  rcases hex with rfl | rfl
  · cases e <;> simp [exR] at hx
    exact main
  · cases e <;> simp [exR] at hx
    exact main

theorem Zlc (hP : PR P fm AP) (hE : Zfa P fm E) {f : Nat} {args : List V} {xs : Array Value} {γ γ' : Nat} {v : V} (hc : Zdo AP E f args H γ = some (v, H', γ')) (h : Rel (CC P fm) B X H w) (hfm : X.fm = fm) (ha : RL X args xs.toList)
    (hi : ∀ i k, X.iss i k → k < γ) (l : Option Nat) (m : Nat) : CallsIn (FF l) m P (fm f) xs w (RetP P fm B X v H' γ γ') := by
  unfold Zdo at hc
  split at hc
  · cases hc
  · rename_i fn hf
    split at hc
    · have key : ∀ ex s, (ex = Ex.normal ∨ ex = .ret) → E fn.body ⟨env0 fn.nt args, H, γ, none⟩ = some (ex, s) → (match resV s.env s.H fn.res with
          | some v => some (v, if fn.keep then s.H else s.H.take H.length, s.γ)
          | none => none) = some (v, H', γ') → CallsIn (FF l) m P (fm f) xs w (RetP P fm B X v H' γ γ') := fun ex s hex he hr => by
        cases hv : resV s.env s.H fn.res with
        | none => rw [hv] at hr; cases hr
        | some v0 =>
          rw [hv] at hr
          simp only [Option.some.injEq, Prod.mk.injEq] at hr
          obtain ⟨rfl, rfl, rfl⟩ := hr
          refine (Zmd hP hE hf hex he hv h hfm ha hi l m).mono fun e w' hr => ?_
          obtain ⟨hγ, x, Y, rfl, hle, hrel, hrv, hiss, hnew⟩ := hr
          cases fn.keep with
          | true => exact ⟨hγ, x, Y, rfl, hle, hrel, hrv, hiss, hnew⟩
          | false =>
            obtain ⟨k1, k2⟩ := hrel.take H.length
            exact ⟨hγ, x, _, rfl, hle.trans k1, k2, hrv.weak k1, hiss, hnew⟩
      split at hc
      · rename_i s he; exact key _ s (.inl rfl) he hc
      · rename_i s he; exact key _ s (.inr rfl) he hc
      · cases hc
    · cases hc
end Go.AM
