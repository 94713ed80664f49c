/- What it is for an abstract operation to be one of the model's: a check by computation. -/
import Derived.Test.YteooegmokbbeoaaGauR
import Derived.Laws.Entries
set_option linter.unusedSimpArgs false
set_option linter.unusedVariables false
namespace Go.AM
open Go

def rowD : TypeDesc → Bool
  | .struct _ | .array _ _ => true
  | _ => false

section
variable (P : Program) (fm : Nat → Nat)
def chkK : IntKind → IntKind → Bool
  | .i8, .i8 | .i16, .i16 | .i32, .i32 | .i64, .i64 | .u8, .u8 | .u16, .u16 | .u32, .u32 | .u64, .u64 => true
  | _, _ => false
def chkV : V → Value → Bool
  | .int k n, .int k' n' => chkK k k' && decide (n = n')
  | .bool b, .bool b' => b == b'
  | .str s, .string s' => s.data.toList == s'.data.toList
  | .nilp, .pointer none => true
  | .nils, .slice none 0 0 => true
  | .nilm, .map none => true
  | .nilf, .nilFunc => true
  | .nili, .nilIface => true
  | _, _ => false
def chkL : List V → List Value → Bool
  | [], [] => true
  | v :: vs, x :: xs => chkV v x && chkL vs xs
  | _, _ => false
def chkO : Opd → Operand → Bool
  | .t n, .tmp m => n == m
  | .c (.fn f [] []), .func k => fm f == k
  | .c v, .const x => chkV v x || (match v, x with | .agg vs, .agg xs => chkL vs xs.toList | _, _ => false)
  | _, _ => false
def Zcb : List Opd → List Operand → Bool
  | [], [] => true
  | v :: vs, x :: xs => chkO fm v x && Zcb vs xs
  | _, _ => false
def szB (t : TypeId) (n : Nat) : Bool := match P.info? t with | some i => i.size == n | none => false
def byB (t : TypeId) (n : Nat) : Bool := match P.info? t with | some i => i.bytes == n | none => false
def agB (t : TypeId) (ag : Bool) : Bool := match P.underlying t with | some d => rowD d == ag | none => false
def zB (t : TypeId) (z : List V) : Bool := match P.info? t with
  | some i => (match i.zero with | some x => chkL z x.cells.toList | none => false)
  | none => false
def zvB (t : TypeId) (z : V) : Bool := match P.info? t with
  | some i => (match i.zero with | some x => chkO fm (.c z) (.const x) | none => false)
  | none => false
/-- A struct type's fields at their places. -/
def Zlk (fs : Array Field) : List (Nat × Nat × Opd) → List (Nat × Operand) → Bool
  | [], [] => true
  | (off, n, x) :: ps, (i, y) :: qs => (match fs[i]? with | some f => f.offset == off && szB P f.type n | none => false) && chkO fm x y && Zlk fs ps qs
  | _, _ => false
def Zjr (sz : Nat) : List (Nat × Nat × Opd) → List (Nat × Operand) → Bool
  | [], [] => true
  | (off, n, x) :: ps, (i, y) :: qs => off == i * sz && n == sz && chkO fm x y && Zjr sz ps qs
  | _, _ => false
/-- The scalar cells of a type. -/
def shp : Nat → TypeId → Option (List SK)
  | 0, _ => none
  | d + 1, t => match P.underlying t with
    | some (.int _) => if szB P t 1 then some [.i] else none
    | some .bool => if szB P t 1 then some [.b] else none
    | some .string => if szB P t 1 then some [.s] else none
    | some (.struct fs) => if P.stoodInHeld t then none else match shpS (shp d) fs.toList 0 with
      | some ks => if szB P t ks.length then some ks else none
      | none => none
    | some (.array n e) => match shp d e with
      | some ks => if szB P t (n * ks.length) then some ((List.replicate n ks).flatten) else none
      | none => none
    | _ => none
  where shpS (f : TypeId → Option (List SK)) : List Field → Nat → Option (List SK)
  | [], _ => some []
  | fd :: fs, off => if fd.offset = off ∧ fd.name ≠ "_" then match f fd.type with
      | some ks => match shpS f fs (off + ks.length) with
        | some l => some (ks ++ l)
        | none => none
      | none => none
    else none
def skB : List SK → List SK → Bool
  | [], [] => true
  | .i :: a, .i :: b | .b :: a, .b :: b | .s :: a, .s :: b => skB a b
  | _, _ => false
def shpB (t : TypeId) (ag : Bool) (ks : List SK) : Bool := agB P t ag && (match shp P 9 t with | some l => skB ks l | none => false)
def nilT (t : TypeId) (nk : Nat) : Bool := match P.underlying t with
  | some (.slice _) => nk == 0
  | some (.pointer _) => nk == 1
  | some (.map _ _) => nk == 2
  | some (.func _ _ _) => nk == 3
  | _ => false
def opNg : BinOp → Bool → Bool
  | .eql, false | .neq, true => true
  | _, _ => false
def Ziw : Aop → Op → Bool
  | .mv x, .move y | .mv x, .assign y => chkO fm x y
  | .pick c a b, .pick c' a' b' => chkO fm c c' && chkO fm a a' && chkO fm b b'
  | .box x, .box _ y => chkO fm x y
  | .alloc z, .alloc t => zB P t z
  | .build z ps, .build t qs => zB P t z && (match P.underlying t with
    | some (.struct fs) => fs.toList.all (fun f => (P.info? f.type).isSome) && Zlk P fm fs ps qs.toList
    | some (.array _ e) => (match P.info? e with | some i => Zjr fm i.size ps qs.toList | none => false)
    | _ => false)
  | .bsl sz len z ps, .buildSlice t len' qs => len == len' && (match P.underlying t with
    | some (.slice e) => szB P e sz && zB P e z && Zjr fm sz ps qs.toList
    | _ => false)
  | .ld n ag x, .load t y => szB P t n && agB P t ag && chkO fm x y
  | .st n a x, .store t a' x' => szB P t n && chkO fm a a' && chkO fm x x'
  | .nchk x, .nilCheck y => chkO fm x y
  | .bin op x y, .binOp op' t x' y' _ => decide (op = op') && chkO fm x x' && chkO fm y y'
  | .eqb ng ag ks x y, .binOp op t x' y' _ => opNg op ng && shpB P t ag ks && chkO fm x x' && chkO fm y y'
  | .eqn ng nk x y, .binOp op t x' y' _ => opNg op ng && nilT P t nk && chkO fm x x' && chkO fm y y'
  | .un op x, .unOp op' _ y => decide (op = op') && chkO fm x y
  | .conv k x, .convert src dst y => (match P.underlying src, P.underlying dst with | some (.int _), some (.int k') => chkK k k' | _, _ => false) && chkO fm x y
  | .mkf f fs cs, .makeFunc (.func k) fs' cs' => fm f == k && Zcb fm fs fs'.toList && Zcb fm cs cs'.toList
  | .mkm none, .makeMap _ none => true
  | .mkm (some x), .makeMap t (some y) => chkO fm x y && (match P.underlying t with | some (.map _ _) => true | _ => false)
  | .mks sz bytes z l c, .makeSlice t l' c' => chkO fm l l' && chkO fm c c' && (match P.underlying t with
    | some (.slice e) => szB P e sz && byB P e bytes && zB P e z
    | _ => false)
  | .slc sz x l h m, .slice t x' l' h' m' => chkO fm x x' && Zcb fm l.toList l'.toList && Zcb fm h.toList h'.toList && Zcb fm m.toList m'.toList && (match P.underlying t with
    | some (.slice e) => szB P e sz
    | _ => false)
  | .fad off x, .fieldAddr t y f => chkO fm x y && (match P.underlying t with
    | some (.struct fs) => (match fs[f]? with | some fd => fd.offset == off && (match P.info? fd.type with | some i => i.size != 0 | none => false) | none => false)
    | _ => false)
  | .fld off n ag x, .field t y f => chkO fm x y && (match P.underlying t with
    | some (.struct fs) => (match fs[f]? with | some fd => fd.offset == off && szB P fd.type n && agB P fd.type ag | none => false)
    | _ => false)
  | .iad sz x i, .indexAddr t x' i' => chkO fm x x' && chkO fm i i' && (match P.underlying t with
    | some (.slice e) => szB P e sz
    | _ => false)
  | .iap sz len x i, .indexAddr t x' i' => chkO fm x x' && chkO fm i i' && (match P.underlying t with
    | some (.array n e) => n == len && szB P e sz
    | _ => false)
  | .idx sz len ag x i, .index t x' i' => chkO fm x x' && chkO fm i i' && (match P.underlying t with
    | some (.array n e) => n == len && szB P e sz && agB P e ag
    | _ => false)
  | .lkp ag ks z ok x k, .lookup t x' k' ok' => ok == ok' && chkO fm x x' && chkO fm k k' && (match P.underlying t with
    | some (.map kt e) => shpB P kt ag ks && zvB P fm e z
    | _ => false)
  | .mup ag ks m k x, .mapUpdate t m' k' x' | .mup ag ks m k x, .insert t m' k' x' => chkO fm m m' && chkO fm k k' && chkO fm x x' && (match P.underlying t with
    | some (.map kt _) => shpB P kt ag ks
    | _ => false)
  | .ext x i, .extract y j => chkO fm x y && i == j
  | .app sz bytes s x, .call { callee := .builtin .append, args, argTypes } => Zcb fm [s, x] args.toList && (match argTypes[0]?, argTypes[1]? with
    | some t, some t' => (match P.underlying t, P.underlying t' with
      | some (.slice e), some (.slice _) => decide (0 < sz) && szB P e sz && byB P e bytes && (match P.info? e with | some i => (match i.zero with | some z => z.cells.size == sz | none => false) | none => false)
      | _, _ => false)
    | _, _ => false)
  | .len m x, .call { callee := .builtin .len, args, argTypes } => Zcb fm [x] args.toList && (match argTypes[0]? with
    | some t => (match P.underlying t with | some (.slice _) => m == 0 | some .string => m == 1 | some (.map _ _) => m == 2 | _ => false)
    | none => false)
  | .alen n, .call { callee := .builtin .len, args, argTypes } => args.size == 1 && (match argTypes[0]? with
    | some t => (match P.underlying t with | some (.array m _) => decide (n = m) | _ => false)
    | none => false)
  | .cap x, .call { callee := .builtin .cap, args, argTypes } => Zcb fm [x] args.toList && (match argTypes[0]? with
    | some t => (match P.underlying t with | some (.slice _) => true | _ => false)
    | none => false)
  | .mx x y, .call { callee := .builtin .max, args, .. } => Zcb fm [x, y] args.toList
  | .mn x y, .call { callee := .builtin .min, args, .. } => Zcb fm [x, y] args.toList
  | .cpy sz d s, .call { callee := .builtin .copy, args, argTypes } => Zcb fm [d, s] args.toList && (match argTypes[0]?, argTypes[1]? with
    | some t, some t' => (match P.underlying t, P.underlying t' with
      | some (.slice e), some (.slice _) => szB P e sz
      | _, _ => false)
    | _, _ => false)
  | .call _ f args, .call { callee := .value g, args := as, .. } => Zcb fm (f :: args) (g :: as.toList)
  | .six x i, .index t x' i' => chkO fm x x' && chkO fm i i' && (match P.underlying t with | some .string => true | _ => false)
  | .bad, .defer _ => false
  | .bad, _ => true
  | _, _ => false
end

/-! ### What the checks give -/
section
variable {P : Program} {fm : Nat → Nat} {X : Cx}
theorem Zwa {k k' : IntKind} (h : chkK k k' = true) : k = k' := by cases k <;> cases k' <;> first | rfl | (simp [chkK] at h)
theorem bytes_eq {s s' : ByteArray} (h : s.data.toList = s'.data.toList) : s = s' := by
  cases s; cases s'; simp at h; simpa using h
theorem Zxq {v : V} {x : Value} (h : chkV v x = true) : RV X v x ∧ one v = true ∧ Zak v = true := by
  cases v <;> cases x <;> simp [chkV] at h
  case int k n k' n' => obtain ⟨h1, rfl⟩ := h; obtain rfl := Zwa h1; exact ⟨.int _ _, rfl, rfl⟩
  case bool b b' => subst h; exact ⟨.bool _, rfl, rfl⟩
  case str s s' =>
    obtain rfl : s = s' := by cases s; cases s'; simpa using h
    exact ⟨.str _, rfl, rfl⟩
  case nilp.pointer a => cases a <;> simp [chkV] at h; exact ⟨.nilp, rfl, rfl⟩
  case nils.slice a l c => cases a <;> cases l <;> cases c <;> simp [chkV] at h; exact ⟨.nils, rfl, rfl⟩
  case nilm.map a => cases a <;> simp [chkV] at h; exact ⟨.nilm, rfl, rfl⟩
  case nilf.nilFunc => exact ⟨.nilf, rfl, rfl⟩
  case nili.nilIface => exact ⟨.nili, rfl, rfl⟩
theorem Zoc : ∀ {vs : List V} {xs : List Value}, chkL vs xs = true → RL X vs xs ∧ (∀ v ∈ vs, one v = true) ∧ Zak.pureL vs = true
  | [], [], _ => ⟨⟨rfl, by simp⟩, by simp, rfl⟩
  | [], _ :: _, h => by simp [chkL] at h
  | _ :: _, [], h => by simp [chkL] at h
  | v :: vs, x :: xs, h => by
    simp only [chkL, Bool.and_eq_true] at h
    obtain ⟨h1, h2, h3⟩ := Zxq (X := X) h.1
    obtain ⟨⟨h4, h5⟩, h6, h7⟩ := Zoc h.2
    refine ⟨⟨by simp [h4], fun i u y hu hy => ?_⟩, ?_, by simp [Zak.pureL, h3, h7]⟩
    · cases i with
      | zero => simp at hu hy; subst hu hy; exact h1
      | succ i => exact h5 i u y (by simpa using hu) (by simpa using hy)
    · intro u hu
      rcases List.mem_cons.1 hu with rfl | hu
      · exact h2
      · exact h6 u hu

theorem Zsl {e : List V} {a : Act} {x : Opd} {y : Operand} (he : EnvR X e a.tmps) (hfm : X.fm = fm) (h : chkO fm x y = true) : RV X (Zbz e x) (a.eval y) := by
  cases x with
  | t n =>
    cases y <;> simp [chkO] at h
    subst h
    exact he.2 _
  | c v =>
    cases y with
    | tmp m => cases v <;> simp [chkO] at h <;> (rename_i f fs cs; cases fs <;> cases cs <;> simp [chkO] at h)
    | const x =>
      simp only [Zbz, Act.eval]
      have h' : chkV v x = true ∨ (∃ vs xs, v = .agg vs ∧ x = .agg xs ∧ chkL vs xs.toList = true) := by
        cases v with
        | agg vs =>
          cases x <;> simp [chkO, chkV] at h
          exact .inr ⟨_, _, rfl, rfl, h⟩
        | fn f fs cs => cases fs <;> cases cs <;> simp [chkO, chkV] at h
        | _ => left; simpa [chkO] using h
      rcases h' with h' | ⟨vs, xs, rfl, rfl, h'⟩
      · exact (Zxq h').1
      · obtain ⟨⟨h1, h2⟩, h3, _⟩ := Zoc (X := X) h'
        exact .agg vs xs (by simpa using h1) (fun i v hv => h3 v (List.mem_of_getElem? hv)) (fun i v x hv hx => h2 i v x hv (by simpa using hx))
    | global g => cases v <;> simp [chkO] at h <;> (rename_i f fs cs; cases fs <;> cases cs <;> simp [chkO] at h)
    | func k =>
      have : ∃ f, v = .fn f [] [] ∧ fm f = k := by
        cases v <;> simp [chkO] at h
        rename_i f fs cs
        cases fs <;> cases cs <;> simp [chkO] at h
        exact ⟨f, rfl, h⟩
      obtain ⟨f, rfl, rfl⟩ := this
      simp only [Zbz, Act.eval]
      rw [← hfm]
      exact .fn f [] [] #[] #[] rfl rfl (by simp) (by simp)
theorem Zqt {e : List V} {a : Act} (he : EnvR X e a.tmps) (hfm : X.fm = fm) : ∀ {xs : List Opd} {ys : List Operand}, Zcb fm xs ys = true → RL X (xs.map (Zbz e)) (ys.map a.eval)
  | [], [], _ => ⟨rfl, by simp⟩
  | [], _ :: _, h => by simp [Zcb] at h
  | _ :: _, [], h => by simp [Zcb] at h
  | x :: xs, y :: ys, h => by
    simp only [Zcb, Bool.and_eq_true] at h
    obtain ⟨h1, h2⟩ := Zqt he hfm h.2
    refine ⟨by simpa using h1, fun i v z hv hz => ?_⟩
    cases i with
    | zero => simp at hv hz; subst hv hz; exact Zsl he hfm h.1
    | succ i => exact h2 i v z (by simpa using hv) (by simpa using hz)

theorem Znk {t : TypeId} {n : Nat} (h : szB P t n = true) : ∃ i, P.info? t = some i ∧ i.size = n := by
  unfold szB at h
  split at h
  · rename_i i hi; exact ⟨i, hi, by simpa using h⟩
  · cases h
theorem Ztf {t : TypeId} {n : Nat} (h : byB P t n = true) : ∃ i, P.info? t = some i ∧ i.bytes = n := by
  unfold byB at h
  split at h
  · rename_i i hi; exact ⟨i, hi, by simpa using h⟩
  · cases h
theorem Zbh {t : TypeId} {n : Nat} (h : szB P t n = true) (w : World) : (sizeOf t).run P w = .ok n w := by
  obtain ⟨i, hi, rfl⟩ := Znk h
  simp [sizeOf, typeInfo, hi]
theorem Zcl {t : TypeId} {ag : Bool} (h : agB P t ag = true) (w : World) : (isAgg t).run P w = .ok ag w := by
  unfold agB at h
  split at h
  · rename_i d hd
    simp only [beq_iff_eq] at h
    subst h
    simp only [isAgg, Sem.run_bind, run_underlying hd, Result.andThen_ok]
    cases d <;> rfl
  · cases h
theorem Zvw {t : TypeId} {z : List V} (h : zB P t z = true) : ∃ i x, P.info? t = some i ∧ i.zero = some x ∧ chkL z x.cells.toList = true ∧ (∀ w, (zeroValue t).run P w = .ok x w) := by
  unfold zB at h
  split at h
  · rename_i i hi
    split at h
    · rename_i x hx
      exact ⟨i, x, hi, hx, h, fun w => by simp [zeroValue, typeInfo, hi, hx]⟩
    · cases h
  · cases h
end
end Go.AM
