/- The relation between the abstract machine's states and the model's. -/
import Derived.Test.YteooegmokbbeoaaGauA
import Derived.RangeFuncRecord
import Derived.Laws.World
import Derived.Laws.NewBlocks
set_option linter.unusedVariables false
namespace Go.AM
open Go

inductive LK where
  | cells (n : Nat) | map | loop

structure Cx where
  fm : Nat → Nat
  F : Nat → Option Obj
  lv : Nat → Nat → Option LK
  μ : Nat → Option (Nat × Nat × Nat)
  iss : Nat → Nat → Prop

def Zjq (F : Nat → Option Obj) (b i : Nat) : Option Value :=
  match F b with
  | some (.cells c _ _) => c[i]?
  | _ => none

def SlR (m : Option (Nat × Nat × Nat)) (sz off len : Nat) (cap : Option Nat) (n : Nat) (a : Option Addr) (c' : Nat) : Prop :=
  match m with
  | none => len = 0 ∧ (∀ c, cap = some c → c = 0) ∧ a = none ∧ c' = 0 ∧ n = 0 ∧ off = 0
  | some (b, base, tot) =>
      (a = some ⟨b, base + off, none⟩ ∧ base + off + c' * sz ≤ tot ∧ off + len * sz ≤ n ∧ (∀ c, cap = some c → off + c * sz ≤ n) ∧ (cap = none → n ≤ off + c' * sz)) ∨
      ((∃ b' o', a = some ⟨b', o', none⟩) ∧ c' = 0 ∧ len = 0 ∧ (cap = none → n ≤ off))

inductive RV (X : Cx) : V → Value → Prop
  | int (k : IntKind) (n : Int) : RV X (.int k n) (.int k n)
  | bool (b : Bool) : RV X (.bool b) (.bool b)
  | str (s : ByteArray) : RV X (.str s) (.string s)
  | nilp : RV X .nilp (.pointer none)
  | nils : RV X .nils (.slice none 0 0)
  | nilm : RV X .nilm (.map none)
  | nilf : RV X .nilf .nilFunc
  | nili : RV X .nili .nilIface
  | ptr (id g off : Nat) (a : Addr) (hg : X.iss id g)
      (hl : ∀ n, X.lv id g = some (.cells n) → ∃ b base tot, X.μ id = some (b, base, tot) ∧ a = ⟨b, base + off, none⟩) : RV X (.ptr id g off) (.pointer (some a))
  | pf (cells : List V) (off b o0 : Nat) (xs : Nat → Value) (hp : Zak.pureL cells = true)
      (h1 : ∀ (i : Nat) (v : V), cells[i]? = some v → Zjq X.F b (o0 + i) = some (xs i) ∧ one v = true)
      (h2 : ∀ (i : Nat) (v : V), cells[i]? = some v → RV X v (xs i)) : RV X (.pf cells off) (.pointer (some ⟨b, o0 + off, none⟩))
  | sl (id g sz off len : Nat) (cap : Option Nat) (a : Option Addr) (c' : Nat) (hg : X.iss id g) (hz : 0 < sz) (hlc : len ≤ c') (hc : ∀ c, cap = some c → c' = c) (ha : 0 < c' → a.isSome = true)
      (hl : ∀ n, X.lv id g = some (.cells n) → SlR (X.μ id) sz off len cap n a c') : RV X (.sl id g sz off len cap) (.slice a len c')
  | arr (cells : List V) (sz len : Nat) (cap : Option Nat) (b o0 c' : Nat) (xs : Nat → Value) (hz : 0 < sz) (hp : Zak.pureL cells = true)
      (hn : cells.length = len * sz) (hc : ∀ c, cap = some c → c' = c) (hlc : len ≤ c')
      (h1 : ∀ (i : Nat) (v : V), cells[i]? = some v → Zjq X.F b (o0 + i) = some (xs i) ∧ one v = true)
      (h2 : ∀ (i : Nat) (v : V), cells[i]? = some v → RV X v (xs i)) : RV X (.arr cells sz len cap) (.slice (some ⟨b, o0, none⟩) len c')
  | mp (id g r : Nat) (hg : X.iss id g) (hl : X.lv id g = some .map → ∃ n m, X.μ id = some (r, n, m)) : RV X (.mp id g) (.map (some r))
  | mpf (ks vs : List V) (r : Nat) (ents : Array MapEntry) (clock : Nat) (hF : X.F r = some (.map ents clock)) (hs : ents.size = ks.length) (hv : vs.length = ks.length) (hp : Zak.pureL ks = true ∧ Zak.pureL vs = true)
      (hw : ∀ (i : Nat) (v : V), vs[i]? = some v → Zcc v = true) (h1 : ∀ (i : Nat) (v : V) (e : MapEntry), ks[i]? = some v → ents[i]? = some e → RV X v e.key)
      (h2 : ∀ (i : Nat) (v : V) (e : MapEntry), vs[i]? = some v → ents[i]? = some e → RV X v e.val) : RV X (.mpf ks vs) (.map (some r))
  | fn (f : Nat) (fst caps : List V) (fs cs : Array Value) (hf : fs.size = fst.length) (hc : cs.size = caps.length)
      (h1 : ∀ (i : Nat) (v : V) (x : Value), fst[i]? = some v → fs[i]? = some x → RV X v x) (h2 : ∀ (i : Nat) (v : V) (x : Value), caps[i]? = some v → cs[i]? = some x → RV X v x) :
      RV X (.fn f fst caps) (.func (.func (X.fm f)) fs cs)
  | yld (id g l : Nat) (hg : X.iss id g) (hl : X.lv id g = some .loop → ∃ n m, X.μ id = some (l, n, m)) : RV X (.yld id g) (.func (.yield l) #[] #[])
  | agg (cells : List V) (xs : Array Value) (hs : xs.size = cells.length) (h1 : ∀ (i : Nat) (v : V), cells[i]? = some v → one v = true)
      (h : ∀ (i : Nat) (v : V) (x : Value), cells[i]? = some v → xs[i]? = some x → RV X v x) : RV X (.agg cells) (.agg xs)
  | tup (vs : List V) (xs : Array Value) (hs : xs.size = vs.length)
      (h : ∀ (i : Nat) (v : V) (x : Value), vs[i]? = some v → xs[i]? = some x → RV X v x) : RV X (.tup vs) (.tuple xs)
  | junk (x : Value) : RV X .junk x

structure Cx.le (X Y : Cx) : Prop where
  fm : Y.fm = X.fm
  F : ∀ b o, X.F b = some o → Y.F b = some o
  iss : ∀ id g, X.iss id g → Y.iss id g
  lv : ∀ id g k, X.iss id g → Y.lv id g = some k → X.lv id g = some k ∧ Y.μ id = X.μ id

theorem Cx.le.refl (X : Cx) : X.le X := ⟨rfl, fun _ _ h => h, fun _ _ h => h, fun _ _ _ _ h => ⟨h, rfl⟩⟩
theorem Cx.le.trans {X Y Z : Cx} (h : X.le Y) (k : Y.le Z) : X.le Z :=
  ⟨k.fm.trans h.fm, fun b o hb => k.F b o (h.F b o hb), fun id g hg => k.iss id g (h.iss id g hg), fun id g q hg hz => by
    obtain ⟨h1, h2⟩ := k.lv id g q (h.iss id g hg) hz
    obtain ⟨h3, h4⟩ := h.lv id g q hg h1
    exact ⟨h3, h2.trans h4⟩⟩

def Znm : Obj → Bool
  | .deferred _ => false
  | _ => true
/-- The same, where of what is frozen no marks are kept. -/
structure Cx.lec (X Y : Cx) : Prop where
  fm : Y.fm = X.fm
  F : ∀ b o, Znm o = true → X.F b = some o → Y.F b = some o
  iss : ∀ id g, X.iss id g → Y.iss id g
  lv : ∀ id g k, X.iss id g → Y.lv id g = some k → X.lv id g = some k ∧ Y.μ id = X.μ id
theorem Cx.le.lec {X Y : Cx} (h : X.le Y) : X.lec Y := ⟨h.fm, fun b o _ hb => h.F b o hb, h.iss, h.lv⟩

theorem Zgv {F F' : Nat → Option Obj} (h : ∀ b o, Znm o = true → F b = some o → F' b = some o) {b i : Nat} {v : Value} (hc : Zjq F b i = some v) : Zjq F' b i = some v := by
  unfold Zjq at *
  cases hb : F b with
  | none => simp [hb] at hc
  | some o =>
    cases o with
    | cells c t f => rw [h b _ rfl hb]; rw [hb] at hc; exact hc
    | _ => rw [hb] at hc; simp at hc

theorem RV.weakc {X Y : Cx} (hXY : X.lec Y) {v : V} {x : Value} (h : RV X v x) : RV Y v x := by
  induction h with
  | int k n => exact .int k n
  | bool b => exact .bool b
  | str s => exact .str s
  | nilp => exact .nilp
  | nils => exact .nils
  | nilm => exact .nilm
  | nilf => exact .nilf
  | nili => exact .nili
  | ptr id g off a hg hl =>
    refine .ptr id g off a (hXY.iss id g hg) fun n hn => ?_
    obtain ⟨h1, h2⟩ := hXY.lv id g _ hg hn
    rw [h2]; exact hl n h1
  | pf cells off b o0 xs hp h1 _ ih => exact .pf cells off b o0 xs hp (fun i v hv => ⟨Zgv hXY.F (h1 i v hv).1, (h1 i v hv).2⟩) ih
  | sl id g sz off len cap a c' hg hz hlc hc ha hl =>
    refine .sl id g sz off len cap a c' (hXY.iss id g hg) hz hlc hc ha fun n hn => ?_
    obtain ⟨h1, h2⟩ := hXY.lv id g _ hg hn
    rw [h2]; exact hl n h1
  | arr cells sz len cap b o0 c' xs hz hp hn hc hlc h1 _ ih =>
    exact .arr cells sz len cap b o0 c' xs hz hp hn hc hlc (fun i v hv => ⟨Zgv hXY.F (h1 i v hv).1, (h1 i v hv).2⟩) ih
  | mp id g r hg hl =>
    refine .mp id g r (hXY.iss id g hg) fun hn => ?_
    obtain ⟨h1, h2⟩ := hXY.lv id g _ hg hn
    rw [h2]; exact hl h1
  | mpf ks vs r ents clock hF hs hv hp hw _ _ ih1 ih2 => exact .mpf ks vs r ents clock (hXY.F r _ rfl hF) hs hv hp hw ih1 ih2
  | fn f fst caps fs cs hf hc _ _ ih1 ih2 => rw [← hXY.fm]; exact .fn f fst caps fs cs hf hc ih1 ih2
  | yld id g l hg hl =>
    refine .yld id g l (hXY.iss id g hg) fun hn => ?_
    obtain ⟨h1, h2⟩ := hXY.lv id g _ hg hn
    rw [h2]; exact hl h1
  | agg cells xs hs h1 _ ih => exact .agg cells xs hs h1 ih
  | tup vs xs hs _ ih => exact .tup vs xs hs ih
  | junk x => exact .junk x

theorem RV.weak {X Y : Cx} (hXY : X.le Y) {v : V} {x : Value} (h : RV X v x) : RV Y v x := h.weakc hXY.lec

theorem Zcd {l : List V} (h : Zak.pureL l = true) : ∀ {i : Nat} {v : V}, l[i]? = some v → Zak v = true := by
  induction l with
  | nil => intro i v hv; simp at hv
  | cons c cs ih =>
    intro i v hv
    simp only [Zak.pureL, Bool.and_eq_true] at h
    cases i with
    | zero => simp at hv; subst hv; exact h.1
    | succ i => exact ih h.2 (by simpa using hv)
theorem Ztp {l : List V} (h : ∀ v ∈ l, Zak v = true) : Zak.pureL l = true := by
  induction l with
  | nil => rfl
  | cons c cs ih =>
    simp only [Zak.pureL, Bool.and_eq_true]
    exact ⟨h c (by simp), ih fun v hv => h v (by simp [hv])⟩
theorem pureL_mem {l : List V} (h : Zak.pureL l = true) {v : V} (hv : v ∈ l) : Zak v = true := by
  obtain ⟨i, hi⟩ := List.mem_iff_getElem?.1 hv
  exact Zcd h hi

/-- What holds nothing of the heap is related alike in whatever heap. -/
theorem RV.pure {X Y : Cx} (hfm : Y.fm = X.fm) (hF : ∀ b o, Znm o = true → X.F b = some o → Y.F b = some o) {v : V} {x : Value} (h : RV X v x) : Zak v = true → RV Y v x := by
  induction h with
  | int k n => intro _; exact .int k n
  | bool b => intro _; exact .bool b
  | str s => intro _; exact .str s
  | nilp => intro _; exact .nilp
  | nils => intro _; exact .nils
  | nilm => intro _; exact .nilm
  | nilf => intro _; exact .nilf
  | nili => intro _; exact .nili
  | ptr id g off a hg hl => intro h; simp [Zak] at h
  | pf cells off b o0 xs hp h1 _ ih => intro _; exact .pf cells off b o0 xs hp (fun i v hv => ⟨Zgv hF (h1 i v hv).1, (h1 i v hv).2⟩) (fun i v hv => ih i v hv (Zcd hp hv))
  | sl id g sz off len cap a c' hg hz hlc hc ha hl => intro h; simp [Zak] at h
  | arr cells sz len cap b o0 c' xs hz hp hn hc hlc h1 _ ih =>
    intro _; exact .arr cells sz len cap b o0 c' xs hz hp hn hc hlc (fun i v hv => ⟨Zgv hF (h1 i v hv).1, (h1 i v hv).2⟩) (fun i v hv => ih i v hv (Zcd hp hv))
  | mp id g r hg hl => intro h; simp [Zak] at h
  | fn f fst caps fs cs hf hc _ _ ih1 ih2 =>
    intro h
    simp only [Zak, Bool.and_eq_true] at h
    rw [← hfm]; exact .fn f fst caps fs cs hf hc (fun i v x hv hx => ih1 i v x hv hx (Zcd h.1 hv)) (fun i v x hv hx => ih2 i v x hv hx (Zcd h.2 hv))
  | mpf ks vs r ents clock hFr hs hv hp hw _ _ ih1 ih2 =>
    intro h
    exact .mpf ks vs r ents clock (hF r _ rfl hFr) hs hv hp hw (fun i v e hk he => ih1 i v e hk he (Zcd hp.1 hk)) (fun i v e hk he => ih2 i v e hk he (Zcd hp.2 hk))
  | yld id g l hg hl => intro h; simp [Zak] at h
  | agg cells xs hs h1 _ ih => intro h; exact .agg cells xs hs h1 (fun i v x hv hx => ih i v x hv hx (Zcd h hv))
  | tup vs xs hs _ ih => intro h; exact .tup vs xs hs (fun i v x hv hx => ih i v x hv hx (Zcd h hv))
  | junk x => intro h; simp [Zak] at h

/-- A cell's value is one cell of the model's too. -/
theorem RV.oneCell {X : Cx} {v : V} {x : Value} (h : RV X v x) (ho : one v = true) : x.oneCell' = true := by
  cases h <;> first | rfl | (simp [one] at ho)
theorem Zvx {X : Cx} {v : V} {x : Value} (h : RV X v x) (ho : one v = true) : x.cells = #[x] := by
  cases h <;> first | rfl | (simp [one] at ho)
/-- The cells of a Zcc value. -/
theorem RV.cells {X : Cx} {v : V} {x : Value} (h : RV X v x) (hw : Zcc v = true) :
    x.cells.size = (Zbj v).length ∧ (∀ (i : Nat) (u : V), (Zbj v)[i]? = some u → one u = true) ∧ ∀ (i : Nat) (u : V) (y : Value), (Zbj v)[i]? = some u → x.cells[i]? = some y → RV X u y := by
  have single : ∀ {v : V} {x : Value}, RV X v x → x.cells = #[x] → Zbj v = [v] → one v = true →
      x.cells.size = (Zbj v).length ∧ (∀ (i : Nat) (u : V), (Zbj v)[i]? = some u → one u = true) ∧ ∀ (i : Nat) (u : V) (y : Value), (Zbj v)[i]? = some u → x.cells[i]? = some y → RV X u y := by
    intro v x h e1 e2 ho
    rw [e1, e2]
    refine ⟨rfl, fun i u hu => ?_, fun i u y hu hy => ?_⟩
    · cases i with
      | zero => simp at hu; subst hu; exact ho
      | succ i => simp at hu
    · cases i with
      | zero => simp at hu hy; subst hu hy; exact h
      | succ i => simp at hu
  cases h with
  | agg cells xs hs h1 h => exact ⟨hs, h1, h⟩
  | tup vs xs hs h => simp [Zcc] at hw
  | junk x => simp [Zcc] at hw
  | int k n => exact single (.int k n) rfl rfl rfl
  | bool b => exact single (.bool b) rfl rfl rfl
  | str s => exact single (.str s) rfl rfl rfl
  | nilp => exact single .nilp rfl rfl rfl
  | nils => exact single .nils rfl rfl rfl
  | nilm => exact single .nilm rfl rfl rfl
  | nilf => exact single .nilf rfl rfl rfl
  | nili => exact single .nili rfl rfl rfl
  | ptr id g off a hg hl => exact single (.ptr id g off a hg hl) rfl rfl rfl
  | pf cells off b o0 xs hp h1 h2 => exact single (.pf cells off b o0 xs hp h1 h2) rfl rfl rfl
  | sl id g sz off len cap a c' hg hz hlc hc ha hl => exact single (.sl id g sz off len cap a c' hg hz hlc hc ha hl) rfl rfl rfl
  | arr cells sz len cap b o0 c' xs hz hp hn hc hlc h1 h2 => exact single (.arr cells sz len cap b o0 c' xs hz hp hn hc hlc h1 h2) rfl rfl rfl
  | mp id g r hg hl => exact single (.mp id g r hg hl) rfl rfl rfl
  | mpf ks vs r ents clock hF hs hv hp hw' h1 h2 => exact single (.mpf ks vs r ents clock hF hs hv hp hw' h1 h2) rfl rfl rfl
  | fn f fst caps fs cs hf hc h1 h2 => exact single (.fn f fst caps fs cs hf hc h1 h2) rfl rfl rfl
  | yld id g l hg hl => exact single (.yld id g l hg hl) rfl rfl rfl

/-! ### The state -/
def lvH (H : Heap) (id g : Nat) : Option LK :=
  match getH H id g with
  | some (.cells cs _) => some (.cells cs.length)
  | some (.map _) => some .map
  | some (.loop ..) => some .loop
  | none => none

/-- A list of values, a list of the model's, cell by cell. -/
def RL (X : Cx) (vs : List V) (xs : List Value) : Prop := xs.length = vs.length ∧ ∀ (i : Nat) (v : V) (x : Value), vs[i]? = some v → xs[i]? = some x → RV X v x

/-- The environment. -/
def EnvR (X : Cx) (e : List V) (tmps : Array Value) : Prop := tmps.size = e.length ∧ ∀ t, RV X (getE e t) (tmps.getD t undef)
theorem EnvR.weakc {X Y : Cx} {e : List V} {tmps : Array Value} (h : EnvR X e tmps) (hXY : X.lec Y) : EnvR Y e tmps := ⟨h.1, fun t => (h.2 t).weakc hXY⟩
theorem EnvR.weak {X Y : Cx} {e : List V} {tmps : Array Value} (h : EnvR X e tmps) (hXY : X.le Y) : EnvR Y e tmps := h.weakc hXY.lec
/-- An object lies in the model's heap. 'C': what code corresponds to what. -/
def RO (C : AC → Code → Prop) (X : Cx) (w : World) (id : Nat) : O → Prop
  | .cells cs kd => match X.μ id with
    | none => kd = .nilo ∧ cs = []
    | some (b, base, tot) => kd ≠ .nilo ∧ ∃ c t, w.heap[b]? = some (.cells c t (0, 0)) ∧ c.size = tot ∧ base + cs.length ≤ tot ∧
        (∀ (i : Nat) (v : V), cs[i]? = some v → one v = true ∧ ∃ x, c[base + i]? = some x ∧ RV X v x) ∧ ((kd = .froz ∧ X.F b = some (.cells c t (0, 0))) ∨ (kd ≠ .froz ∧ X.F b = none))
  | .map es => ∃ b n m ents clock, X.μ id = some (b, n, m) ∧ X.F b = none ∧ w.heap[b]? = some (.map ents clock) ∧ ents.size = es.length ∧
      ∀ (i : Nat) (e : V × V), es[i]? = some e → Zcc e.2 = true ∧ ∃ ent, ents[i]? = some ent ∧ RV X e.1 ent.key ∧ RV X e.2 ent.val
  | .loop st pend _ env ps asg body => ∃ b n m r, X.μ id = some (b, n, m) ∧ X.F b = none ∧ w.heap[b]? = some (.loop r) ∧ r.params.toList = ps ∧ C asg r.assign ∧ C body r.body ∧
      EnvR X env r.tmps ∧
      (match st with | .ready => r.state = .ready | .busy => r.state = .busy | .done => r.state = .done | .exh => r.state = .exhausted) ∧
      (match pend with | none => r.pending = none | some .ret => r.pending = some .ret | some (.exit i) => r.pending = some (.exit i) | _ => False)

/-- What an activation's heap stands on: the world in which it began, and what was frozen then. -/
structure Base where
  w0 : World
  F0 : Nat → Option Obj

structure Rel (C : AC → Code → Prop) (B : Base) (X : Cx) (H : Heap) (w : World) : Prop where
  lv : X.lv = lvH H
  frz : ∀ b o, X.F b = some o → w.heap[b]? = some o
  obj : ∀ id g o, H[id]? = some (some (g, o)) → X.iss id g ∧ RO C X w id o
  inj : ∀ id id' g g' o o' b n m n' m', H[id]? = some (some (g, o)) → H[id']? = some (some (g', o')) → X.μ id = some (b, n, m) → X.μ id' = some (b, n', m') → X.F b = none → id = id'
  own : ∀ id g o b n m, H[id]? = some (some (g, o)) → X.μ id = some (b, n, m) → X.F b = none → B.w0.heap.size ≤ b
  keep : ∀ b, b < B.w0.heap.size → w.heap[b]? = B.w0.heap[b]?
  fnew : ∀ b o, X.F b = some o → B.F0 b = some o ∨ B.w0.heap.size ≤ b
  os : w.os = B.w0.os
  tape : w.tape = B.w0.tape
  out : w.output = B.w0.output
  size : B.w0.heap.size ≤ w.heap.size

end Go.AM

namespace Go.AM
open Go
variable {C : AC → Code → Prop} {B : Base} {X : Cx} {H : Heap} {w w' : World}

def lkO : O → LK
  | .cells cs _ => .cells cs.length
  | .map _ => .map
  | .loop .. => .loop

theorem Zco {H : Heap} {id g : Nat} {o : O} : getH H id g = some o ↔ H[id]? = some (some (g, o)) := by
  unfold getH
  constructor
  · intro h
    split at h
    · rename_i g' o' hh
      split at h
      · rename_i e; subst e; cases h; exact hh
      · cases h
    · cases h
  · intro h; rw [h]; simp
theorem lvH_eq (H : Heap) (id g : Nat) : lvH H id g = (getH H id g).map lkO := by
  unfold lvH
  cases getH H id g with
  | none => rfl
  | some o => cases o <;> rfl
theorem Zbl {H : Heap} {id g : Nat} {k : LK} : lvH H id g = some k ↔ ∃ o, H[id]? = some (some (g, o)) ∧ lkO o = k := by
  rw [lvH_eq, Option.map_eq_some_iff]
  constructor
  · rintro ⟨o, h, e⟩; exact ⟨o, Zco.1 h, e⟩
  · rintro ⟨o, h, e⟩; exact ⟨o, Zco.2 h, e⟩

theorem RO.weakc {Y : Cx} {id : Nat} {o : O} (hXY : X.lec Y) (hμ : Y.μ id = X.μ id)
    (hF : ∀ b n m, X.μ id = some (b, n, m) → X.F b = none → Y.F b = none)
    (hw : ∀ b n m o, X.μ id = some (b, n, m) → w.heap[b]? = some o → w'.heap[b]? = some o) (h : RO C X w id o) : RO C Y w' id o := by
  cases o with
  | cells cs kd =>
    unfold RO at *
    rw [hμ]
    cases hm : X.μ id with
    | none => rw [hm] at h; exact h
    | some p =>
      obtain ⟨b, base, tot⟩ := p
      rw [hm] at h
      simp only at h ⊢
      obtain ⟨h1, c, t, hb, hs, hl, hc, hf⟩ := h
      refine ⟨h1, c, t, hw b _ _ _ hm hb, hs, hl, fun i v hv => ?_, ?_⟩
      · obtain ⟨ho, x, hx, hr⟩ := hc i v hv
        exact ⟨ho, x, hx, hr.weakc hXY⟩
      · rcases hf with ⟨e, hf⟩ | ⟨e, hf⟩
        · exact .inl ⟨e, hXY.F _ _ rfl hf⟩
        · exact .inr ⟨e, hF b _ _ hm hf⟩
  | map es =>
    unfold RO at *
    obtain ⟨b, n, m, ents, clock, hm, hf, hb, hs, he⟩ := h
    refine ⟨b, n, m, ents, clock, by rw [hμ]; exact hm, hF b _ _ hm hf, hw b _ _ _ hm hb, hs, fun i e hi => ?_⟩
    obtain ⟨h1, ent, h2, h3, h4⟩ := he i e hi
    exact ⟨h1, ent, h2, h3.weakc hXY, h4.weakc hXY⟩
  | loop st pend keep env ps asg body =>
    unfold RO at *
    obtain ⟨b, n, m, r, hm, hf, hb, hp, h1, h2, he, hst, hpd⟩ := h
    exact ⟨b, n, m, r, by rw [hμ]; exact hm, hF b _ _ hm hf, hw b _ _ _ hm hb, hp, h1, h2, he.weakc hXY, hst, hpd⟩

theorem RO.weak {Y : Cx} {id : Nat} {o : O} (hXY : X.le Y) (hμ : Y.μ id = X.μ id)
    (hF : ∀ b n m, X.μ id = some (b, n, m) → X.F b = none → Y.F b = none)
    (hw : ∀ b n m o, X.μ id = some (b, n, m) → w.heap[b]? = some o → w'.heap[b]? = some o) (h : RO C X w id o) : RO C Y w' id o := h.weakc hXY.lec hμ hF hw

theorem RO.block {id : Nat} {o : O} {b n m : Nat} (h : RO C X w id o) (hm : X.μ id = some (b, n, m)) : ∃ ob, w.heap[b]? = some ob := by
  cases o with
  | cells cs kd =>
    unfold RO at h
    rw [hm] at h
    simp only at h
    obtain ⟨_, c, t, hb, _⟩ := h
    exact ⟨_, hb⟩
  | map es =>
    obtain ⟨b', n', m', ents, clock, hm', hf, hb, _⟩ := h
    rw [hm] at hm'; cases hm'
    exact ⟨_, hb⟩
  | loop st pend keep env ps asg body =>
    obtain ⟨b', n', m', r, hm', hf, hb, _⟩ := h
    rw [hm] at hm'; cases hm'
    exact ⟨_, hb⟩

theorem Zeh {H : Heap} {id : Nat} {e : Option (Nat × O)} (hid : id < H.length) (i : Nat) : (H.set id e)[i]? = if i = id then some e else H[i]? := by
  rw [List.getElem?_set]
  by_cases h : id = i
  · subst h; simp [hid]
  · have : ¬ i = id := fun e => h e.symm
    simp [h, this]

def Cx.put (X : Cx) (id g : Nat) (m : Option (Nat × Nat × Nat)) (H : Heap) : Cx :=
  { X with μ := fun i => if i = id then m else X.μ i, iss := fun i g' => X.iss i g' ∨ (i = id ∧ g' = g), lv := lvH H }

/-- One object is set. -/
theorem Rel.set {id g : Nat} {o : O} {m : Option (Nat × Nat × Nat)} (h : Rel C B X H w) (hid : id < H.length)
    (hfresh : (∀ k, X.iss id k → k ≠ g) ∨ (X.μ id = m ∧ ∃ o0, H[id]? = some (some (g, o0)) ∧ lkO o0 = lkO o))
    (hheap : ∀ b, (∀ n k, m ≠ some (b, n, k)) → b < w.heap.size → w'.heap[b]? = w.heap[b]?)
    (hm : ∀ b n k, m = some (b, n, k) → X.F b = none ∧ B.w0.heap.size ≤ b ∧ ∀ id' g' o' n' k', id' ≠ id → H[id']? = some (some (g', o')) → X.μ id' = some (b, n', k') → False)
    (hsize : w.heap.size ≤ w'.heap.size) (hos : w'.os = w.os) (htape : w'.tape = w.tape) (hout : w'.output = w.output)
    (hro : X.le (X.put id g m (H.set id (some (g, o)))) → RO C (X.put id g m (H.set id (some (g, o)))) w' id o) :
    X.le (X.put id g m (H.set id (some (g, o)))) ∧ Rel C B (X.put id g m (H.set id (some (g, o)))) (H.set id (some (g, o))) w' := by
  have hle : X.le (X.put id g m (H.set id (some (g, o)))) := by
    refine ⟨rfl, fun _ _ hb => hb, fun _ _ hi => .inl hi, fun i k q hi hq => ?_⟩
    obtain ⟨oo, ho, hk⟩ := Zbl.1 (show lvH (H.set id (some (g, o))) i k = some q from hq)
    rw [Zeh hid] at ho
    by_cases e : i = id
    · subst e
      simp only [if_true, Option.some.injEq, Prod.mk.injEq] at ho
      obtain ⟨rfl, rfl⟩ := ho
      rcases hfresh with hf | ⟨hμ, o0, h0, hl⟩
      · exact absurd rfl (hf _ hi)
      · refine ⟨by rw [h.lv]; exact Zbl.2 ⟨o0, h0, hl.trans hk⟩, ?_⟩
        simp [Cx.put, hμ]
    · rw [if_neg e] at ho
      refine ⟨by rw [h.lv]; exact Zbl.2 ⟨oo, ho, hk⟩, ?_⟩
      simp [Cx.put, e]
  have hμ : ∀ i, i ≠ id → (X.put id g m (H.set id (some (g, o)))).μ i = X.μ i := fun i e => by simp [Cx.put, e]
  have hμ' : (X.put id g m (H.set id (some (g, o)))).μ id = m := by simp [Cx.put]
  refine ⟨hle, ⟨rfl, ?_, ?_, ?_, ?_, ?_, h.fnew, hos.trans h.os, htape.trans h.tape, hout.trans h.out, Nat.le_trans h.size hsize⟩⟩
  · intro b ob hb
    have hb' := h.frz b ob hb
    rw [← hb']
    refine hheap b (fun n k e => ?_) (Array.getElem?_eq_some_iff.1 hb').1
    have := (hm b n k e).1
    rw [show X.F b = some ob from hb] at this
    cases this
  · intro i k oo hi
    rw [Zeh hid] at hi
    by_cases e : i = id
    · subst e
      simp only [if_true, Option.some.injEq, Prod.mk.injEq] at hi
      obtain ⟨rfl, rfl⟩ := hi
      exact ⟨.inr ⟨rfl, rfl⟩, hro hle⟩
    · rw [if_neg e] at hi
      obtain ⟨h1, h2⟩ := h.obj i k oo hi
      refine ⟨.inl h1, RO.weak hle (hμ i e) (fun b n m' hm' hf => hf) (fun b n m' ob hm' hb => ?_) h2⟩
      rw [hheap b (fun n' k' e' => ?_) (Array.getElem?_eq_some_iff.1 hb).1, hb]
      exact (hm b n' k' e').2.2 i k oo n m' e hi hm'
  · intro i j gi gj oi oj b n m' n' m'' hi hj hmi hmj hF
    rw [Zeh hid] at hi hj
    by_cases ei : i = id
    · by_cases ej : j = id
      · rw [ei, ej]
      · rw [if_neg ej] at hj
        rw [hμ j ej] at hmj
        subst ei
        rw [hμ'] at hmi
        exact ((hm b n m' hmi).2.2 j gj oj n' m'' ej hj hmj).elim
    · rw [if_neg ei] at hi
      rw [hμ i ei] at hmi
      by_cases ej : j = id
      · subst ej
        rw [hμ'] at hmj
        exact ((hm b n' m'' hmj).2.2 i gi oi n m' ei hi hmi).elim
      · rw [if_neg ej] at hj
        rw [hμ j ej] at hmj
        exact h.inj i j gi gj oi oj b n m' n' m'' hi hj hmi hmj hF
  · intro i k oo b n m' hi hmi hF
    rw [Zeh hid] at hi
    by_cases e : i = id
    · subst e
      rw [hμ'] at hmi
      exact (hm b n m' hmi).2.1
    · rw [if_neg e] at hi
      rw [hμ i e] at hmi
      exact h.own i k oo b n m' hi hmi hF
  · intro b hb
    rw [← h.keep b hb]
    refine hheap b (fun n k e => ?_) (Nat.lt_of_lt_of_le hb h.size)
    have := (hm b n k e).2.1
    omega

/-- An object is frozen. -/
theorem Rel.freeze {id g b base tot : Nat} {cs cs' : List V} {kd : Kd} {ob : Obj} (h : Rel C B X H w) (hl : H[id]? = some (some (g, .cells cs kd))) (hlen : cs'.length = cs.length)
    (hm : X.μ id = some (b, base, tot)) (hF : X.F b = none ∨ X.F b = some ob) (hob : w.heap[b]? = some ob)
    (hro : ∀ Y : Cx, X.le Y → Y.μ = X.μ → Y.F b = some ob → RO C Y w id (.cells cs' .froz)) :
    ∃ Y : Cx, X.le Y ∧ Y.μ = X.μ ∧ Y.iss = X.iss ∧ Y.lv = X.lv ∧ Y.F b = some ob ∧ Rel C B Y (H.set id (some (g, .cells cs' .froz))) w := by
  have hid : id < H.length := (List.getElem?_eq_some_iff.1 hl).1
  let Y : Cx := { X with F := fun i => if i = b then some ob else X.F i, lv := lvH (H.set id (some (g, .cells cs' .froz))) }
  have hYF : Y.F b = some ob := by simp [Y]
  have hle : X.le Y := by
    refine ⟨rfl, fun i oo hi => ?_, fun _ _ hi => hi, fun i k q hi hq => ⟨?_, rfl⟩⟩
    · by_cases e : i = b
      · subst e; rcases hF with hF | hF <;> rw [hF] at hi <;> cases hi; simp [Y]
      · simp [Y, e, hi]
    · obtain ⟨oo, ho, hk⟩ := Zbl.1 (show lvH (H.set id (some (g, .cells cs' .froz))) i k = some q from hq)
      rw [Zeh hid] at ho
      rw [h.lv]
      by_cases e : i = id
      · subst e
        simp only [if_true, Option.some.injEq, Prod.mk.injEq] at ho
        obtain ⟨rfl, rfl⟩ := ho
        exact Zbl.2 ⟨_, hl, by rw [← hk]; simp [lkO, hlen]⟩
      · rw [if_neg e] at ho
        exact Zbl.2 ⟨oo, ho, hk⟩
  have hFo : ∀ i, i ≠ b → Y.F i = X.F i := fun i e => by simp [Y, e]
  have hlv : Y.lv = X.lv := by
    show lvH (H.set id (some (g, .cells cs' .froz))) = X.lv
    rw [h.lv]
    funext i k
    unfold lvH getH
    rw [Zeh hid]
    by_cases e : i = id
    · subst e
      rw [if_pos rfl, hl]
      by_cases e2 : g = k
      · subst e2; simp [hlen]
      · simp [e2]
    · rw [if_neg e]
  refine ⟨Y, hle, rfl, rfl, hlv, hYF, ⟨rfl, ?_, ?_, ?_, ?_, h.keep, ?_, h.os, h.tape, h.out, h.size⟩⟩
  · intro i oo hi
    by_cases e : i = b
    · subst e; rw [hYF] at hi; cases hi; exact hob
    · rw [hFo i e] at hi; exact h.frz i oo hi
  · intro i k oo hi
    rw [Zeh hid] at hi
    by_cases e : i = id
    · subst e
      simp only [if_true, Option.some.injEq, Prod.mk.injEq] at hi
      obtain ⟨rfl, rfl⟩ := hi
      exact ⟨(h.obj _ _ _ hl).1, hro Y hle rfl hYF⟩
    · rw [if_neg e] at hi
      obtain ⟨h1, h2⟩ := h.obj i k oo hi
      refine ⟨h1, RO.weak hle rfl (fun b' n m' hm' hf => ?_) (fun b' n m' ob' _ hb' => hb') h2⟩
      by_cases eb : b' = b
      · subst eb
        exact absurd (h.inj i id k g oo _ _ n m' base tot hi hl hm' hm hf) e
      · rw [hFo b' eb]; exact hf
  · intro i j gi gj oi oj b' n m' n' m'' hi hj hmi hmj hF'
    rw [Zeh hid] at hi hj
    have hb' : b' ≠ b := fun e => by subst e; rw [hYF] at hF'; cases hF'
    rw [hFo b' hb'] at hF'
    have live : ∀ i gi oi, (if i = id then some (some (g, O.cells cs' .froz)) else H[i]?) = some (some (gi, oi)) → ∃ g' o', H[i]? = some (some (g', o')) := fun i gi oi hi => by
      by_cases e : i = id
      · subst e; exact ⟨_, _, hl⟩
      · rw [if_neg e] at hi; exact ⟨_, _, hi⟩
    obtain ⟨g1, o1, h1⟩ := live i gi oi hi
    obtain ⟨g2, o2, h2⟩ := live j gj oj hj
    exact h.inj i j g1 g2 o1 o2 b' n m' n' m'' h1 h2 hmi hmj hF'
  · intro i k oo b' n m' hi hmi hF'
    have hb' : b' ≠ b := fun e => by subst e; rw [hYF] at hF'; cases hF'
    rw [hFo b' hb'] at hF'
    rw [Zeh hid] at hi
    by_cases e : i = id
    · subst e; exact h.own i g _ b' n m' hl hmi hF'
    · rw [if_neg e] at hi; exact h.own i k oo b' n m' hi hmi hF'
  · intro i oo hi
    by_cases e : i = b
    · subst e
      rcases hF with hF | hF
      · exact .inr (h.own id g _ _ _ _ hl hm hF)
      · rw [hYF] at hi; cases hi; exact h.fnew _ _ hF
    · rw [hFo i e] at hi; exact h.fnew i oo hi

/-- The world's draws are nothing to it. -/
theorem Rel.world (h : Rel C B X H w) (hh : w'.heap = w.heap) (hos : w'.os = w.os) (htape : w'.tape = w.tape) (hout : w'.output = w.output) : Rel C B X H w' := by
  refine ⟨h.lv, fun b o hb => by rw [hh]; exact h.frz b o hb, fun id g o hi => ?_, h.inj, h.own, fun b hb => by rw [hh]; exact h.keep b hb, h.fnew, hos.trans h.os, htape.trans h.tape, hout.trans h.out, by rw [hh]; exact h.size⟩
  obtain ⟨h1, h2⟩ := h.obj id g o hi
  exact ⟨h1, RO.weak (Cx.le.refl X) rfl (fun _ _ _ _ hf => hf) (fun _ _ _ _ _ hb => by rw [hh]; exact hb) h2⟩

/-- A heap with fewer objects. -/
theorem Rel.fewer {H' : Heap} (h : Rel C B X H w) (hH : ∀ (id g : Nat) (o : O), H'[id]? = some (some (g, o)) → H[id]? = some (some (g, o))) :
    X.le { X with lv := lvH H' } ∧ Rel C B { X with lv := lvH H' } H' w := by
  have hle : X.le { X with lv := lvH H' } := ⟨rfl, fun _ _ hb => hb, fun _ _ hi => hi, fun i k q _ hq => ⟨by
    obtain ⟨oo, ho, hk⟩ := Zbl.1 (show lvH H' i k = some q from hq)
    rw [h.lv]; exact Zbl.2 ⟨oo, hH _ _ _ ho, hk⟩, rfl⟩⟩
  refine ⟨hle, ⟨rfl, h.frz, fun id g o hi => ?_, fun i j gi gj oi oj b n m n' m' hi hj => h.inj i j gi gj oi oj b n m n' m' (hH _ _ _ hi) (hH _ _ _ hj), fun i k oo b n m hi => h.own i k oo b n m (hH _ _ _ hi), h.keep, h.fnew, h.os, h.tape, h.out, h.size⟩⟩
  obtain ⟨h1, h2⟩ := h.obj id g o (hH _ _ _ hi)
  exact ⟨h1, RO.weak hle rfl (fun _ _ _ _ hf => hf) (fun _ _ _ _ _ hb => hb) h2⟩
theorem Rel.take (h : Rel C B X H w) (n : Nat) : X.le { X with lv := lvH (H.take n) } ∧ Rel C B { X with lv := lvH (H.take n) } (H.take n) w :=
  h.fewer fun id g o hi => by
    rw [List.getElem?_take] at hi
    split at hi
    · exact hi
    · cases hi
theorem Zls {H : Heap} {n id g : Nat} {o : O} : (H ++ List.replicate n none)[id]? = some (some (g, o)) → H[id]? = some (some (g, o)) := by
  intro hi
  rw [List.getElem?_append] at hi
  split at hi
  · exact hi
  · rw [List.getElem?_replicate] at hi
    split at hi <;> cases hi
theorem Rel.room (h : Rel C B X H w) (n : Nat) : X.le { X with lv := lvH (H ++ List.replicate n none) } ∧ Rel C B { X with lv := lvH (H ++ List.replicate n none) } (H ++ List.replicate n none) w :=
  h.fewer fun _ _ _ hi => Zls hi

end Go.AM
