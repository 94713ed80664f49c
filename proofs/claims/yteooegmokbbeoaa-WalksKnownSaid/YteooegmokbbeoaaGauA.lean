/- The abstract machine: values, objects, code, and its interpreter 'exec'. Definitions alone. -/
import GoSem.Core.View
import GoSem.Core.Ast
namespace Go.AM

/-- Values. 'arr': a slice of a row that never changes again; 'sl', 'ptr', 'mp', 'yld': into the heap, by a number and a generation. -/
inductive V where
  | int (k : IntKind) (n : Int)
  | bool (b : Bool)
  | str (s : ByteArray)
  | nilp
  | nils
  | nilm
  | nilf
  | nili
  | ptr (id g off : Nat)
  | pf (cells : List V) (off : Nat)
  | sl (id g sz off len : Nat) (cap : Option Nat)
  | arr (cells : List V) (sz len : Nat) (cap : Option Nat)
  | mp (id g : Nat)
  | mpf (ks vs : List V)
  | fn (f : Nat) (fst caps : List V)
  | yld (id g : Nat)
  | agg (cells : List V)
  | tup (vs : List V)
  | ifc (t : Nat) (v : V)
  | junk
instance : Inhabited V := ⟨.junk⟩

/-- What a scalar cell holds. -/
inductive SK where
  | i | b | s

inductive Opd where
  | t (n : Nat)
  | c (v : V)

inductive Mode where
  | raw | iso | fresh

inductive Aop where
  | mv (x : Opd)
  | pick (c a b : Opd)
  | box (x : Opd)
  | alloc (z : List V)
  | build (z : List V) (parts : List (Nat × Nat × Opd))
  | bsl (sz len : Nat) (z : List V) (parts : List (Nat × Nat × Opd))
  | ld (n : Nat) (ag : Bool) (a : Opd)
  | st (n : Nat) (a x : Opd)
  | nchk (x : Opd)
  | bin (op : BinOp) (x y : Opd)
  | eqb (ng ag : Bool) (ks : List SK) (x y : Opd)
  | eqn (ng : Bool) (nk : Nat) (x y : Opd)
  | un (op : UnOp) (x : Opd)
  | conv (k : IntKind) (x : Opd)
  | mkf (f : Nat) (fst caps : List Opd)
  | mkm (r : Option Opd)
  | mks (sz bytes : Nat) (z : List V) (l c : Opd)
  | slc (sz : Nat) (x : Opd) (lo hi mx : Option Opd)
  | fad (off : Nat) (x : Opd)
  | fld (off n : Nat) (ag : Bool) (x : Opd)
  | iad (sz : Nat) (x i : Opd)
  | iap (sz len : Nat) (x i : Opd)
  | idx (sz len : Nat) (ag : Bool) (x i : Opd)
  | lkp (ag : Bool) (ks : List SK) (z : V) (ok : Bool) (x k : Opd)
  | mup (ag : Bool) (ks : List SK) (m k x : Opd)
  | ext (x : Opd) (i : Nat)
  | app (sz bytes : Nat) (s x : Opd)
  | len (m : Nat) (x : Opd)
  | alen (n : Int)
  | cap (x : Opd)
  | mx (x y : Opd)
  | mn (x y : Opd)
  | cpy (sz : Nat) (d s : Opd)
  | call (m : Mode) (f : Opd) (args : List Opd)
  | six (x i : Opd)
  | bad

/-- An operation of a region: 'at': its first own number among the region's new objects; 'frz': its operands are frozen first; 'own': cells of its operand that hold nil slices become slices of the call's own (the cell, the size of an element). -/
structure RS where
  dst : Option Nat
  op : Aop
  grd : Option (Nat × Bool)
  at_ : Nat
  frz : Bool
  own : List (Nat × Nat)

abbrev i0 (d : Nat) (o : Aop) : RS := ⟨some d, o, none, 0, false, []⟩
abbrev i1 (d : Nat) (o : Aop) (k : Nat) : RS := ⟨some d, o, none, k, false, []⟩
abbrev i2 (d : Nat) (o : Aop) (t : Nat) (w : Bool) (k : Nat) : RS := ⟨some d, o, some (t, w), k, false, []⟩
abbrev mv0 (d s : Nat) : RS := ⟨some d, .mv (.t s), none, 0, false, []⟩
abbrev ld1 (d s : Nat) : RS := ⟨some d, .ld 1 false (.t s), none, 0, false, []⟩
abbrev fd0 (d k s : Nat) : RS := ⟨some d, .fad k (.t s), none, 0, false, []⟩
abbrev ia0 (d k s i : Nat) : RS := ⟨some d, .iad k (.t s) (.t i), none, 0, false, []⟩
inductive AC where
  | skip
  | reg (tot : Nat) (ops : List RS)
  | regd (dep : List (List Nat)) (tot : Nat) (ops : List RS)
  | seq (a b : AC)
  | cond (x : Opd) (a b : AC)
  | block (id : Nat) (c : AC)
  | loop (keep : Bool) (c : AC)
  | inl (base : Option Nat) (c : AC)
  | exit (id : Nat)
  | ret
  | rngf (keep : Bool) (f : Opd) (ps : List Nat) (asg body : AC)

inductive Kd where
  | fixed | loose | nilo | froz

inductive LSt where
  | ready | busy | done | exh

inductive O where
  | cells (cs : List V) (k : Kd)
  | map (es : List (V × V))
  | loop (st : LSt) (pend : Option AC) (keep : Bool) (env : List V) (ps : List Nat) (asg body : AC)

inductive ARes where
  | tmp (t : Nat)
  | cell (t n : Nat) (ag : Bool)

structure AFun where
  keep : Bool
  np : Nat
  nt : Nat
  res : List ARes
  body : AC

inductive Ex where
  | normal | exit (id : Nat) | ret

abbrev Heap := List (Option (Nat × O))
/-- 'rd': the round of a range over a function in which the code runs. -/
structure St where
  env : List V
  H : Heap
  γ : Nat
  rd : Option (Nat × Nat)
abbrev Zce := Nat → Option AFun

/-! ### The environment -/
def getE : List V → Nat → V
  | [], _ => .junk
  | x :: _, 0 => x
  | _ :: xs, n + 1 => getE xs n
def putE (e : List V) (n : Nat) (v : V) : List V := e.set n v
/-- The environment of a function that begins. -/
def env0 (nt : Nat) (args : List V) : List V := args ++ List.replicate (nt - args.length) .junk
def putO (e : List V) : Option Nat → V → List V
  | none, _ => e
  | some d, v => putE e d v
def Zbz (e : List V) : Opd → V
  | .t n => getE e n
  | .c v => v

/-! ### Plans: what an operation does with the heap -/
inductive Plan where
  | ret (v : V)
  | rd (id g : Nat) (k : O → Plan)
  | wr (id : Nat) (o : Option (Nat × O)) (k : Plan)
  | no

def getH (H : Heap) (id g : Nat) : Option O :=
  match H[id]? with
  | some (some (g', o)) => if g' = g then some o else none
  | _ => none
/-- The value, the heap, the numbers that were read, those that were written. -/
def runP : Plan → Heap → Option (V × Heap × List Nat × List Nat)
  | .ret v, H => some (v, H, [], [])
  | .rd id g k, H => match getH H id g with
    | some o => match runP (k o) H with
      | some (v, H', r, w) => some (v, H', id :: r, w)
      | none => none
    | none => none
  | .wr id o k, H => if id < H.length then match runP k (H.set id o) with
      | some (v, H', r, w) => some (v, H', r, id :: w)
      | none => none
    else none
  | .no, _ => none

def Zbj : V → List V
  | .agg cs => cs
  | v => [v]
/-- A value that one cell holds. -/
def one : V → Bool
  | .agg _ | .tup _ | .junk => false
  | _ => true
def Zcc : V → Bool
  | .tup _ | .junk => false
  | _ => true
def mkV (ag : Bool) (cs : List V) : Option V :=
  if ag then some (.agg cs) else match cs with | [v] => some v | _ => none
def Zbf (cs : List V) (off : Nat) (xs : List V) : List V := cs.take off ++ xs ++ cs.drop (off + xs.length)
def cut (cs : List V) (off n : Nat) : List V := (cs.drop off).take n

/-- Does a value hold nothing of the heap? -/
def Zak : V → Bool
  | .int .. | .bool _ | .str _ | .nilp | .nils | .nilm | .nilf | .nili | .pf .. | .arr .. => true
  | .agg cs => pureL cs
  | .tup cs => pureL cs
  | .mpf ks vs => pureL ks && pureL vs
  | .fn _ fs cs => pureL fs && pureL cs
  | .ifc _ v => Zak v
  | _ => false
  where pureL : List V → Bool
  | [] => true
  | v :: vs => Zak v && pureL vs

/-- Does a value hold no slice either? -/
def Zcz : V → Bool
  | .int .. | .bool _ | .str _ | .nilp | .nils | .nilm | .nilf | .nili => true
  | .agg cs => flatL cs
  | .tup cs => flatL cs
  | _ => false
  where flatL : List V → Bool
  | [] => true
  | v :: vs => Zcz v && flatL vs

/-- A list's values one by one. -/
def Zby (f : V → (V → Plan) → Plan) : List V → (List V → Plan) → Plan
  | [], k => k []
  | c :: cs, k => f c fun c' => Zby f cs fun cs' => k (c' :: cs')
def frzK (mark : Bool) (id g sz off len : Nat) (cap : Option Nat) (kd : Kd) (k : V → Plan) (cs' : List V) : Plan :=
  match kd with
  | .nilo => k .nils
  | .froz => k (.arr (cut cs' off (len * sz)) sz len cap)
  | _ => if mark then .wr id (some (g, .cells cs' .froz)) (k (.arr (cut cs' off (len * sz)) sz len cap)) else k (.arr (cut cs' off (len * sz)) sz len cap)
/-- Slices of a value become frozen ones; 'mark': their objects are frozen for good (else: they are only read). -/
def Zav (mark : Bool) : Nat → V → (V → Plan) → Plan
  | 0, v, k => if Zak v then k v else .no
  | d + 1, v, k => if Zak v then k v else match v with
    | .sl id g sz off len cap => .rd id g fun o => match o with
      | .cells cs kd =>
        if off + len * sz ≤ cs.length then
          (if Zak.pureL cs then frzK mark id g sz off len cap kd k cs else Zby (Zav mark d) cs (frzK mark id g sz off len cap kd k))
        else .no
      | _ => .no
    | .ptr id g off => match mark with
      | true => .no
      | false => .rd id g fun o => match o with
        | .cells cs kd => match kd with
          | .nilo => .no
          | _ => Zby (Zav false d) cs fun cs' => k (.pf cs' off)
        | _ => .no
    | .mp id g => match mark with
      | true => .no
      | false => .rd id g fun o => match o with
        | .map es => if Zak.pureL (es.map (·.1)) then Zby (Zav false d) (es.map (·.2)) fun vs => k (.mpf (es.map (·.1)) vs) else .no
        | _ => .no
    | .fn f fst caps => Zby (Zav mark d) fst fun fst' => Zby (Zav mark d) caps fun caps' => k (.fn f fst' caps')
    | .agg cs => Zby (Zav mark d) cs fun cs' => k (.agg cs')
    | .tup cs => Zby (Zav mark d) cs fun cs' => k (.tup cs')
    | _ => .no
def Zbg (mark : Bool) (d : Nat) (cs : List V) (k : List V → Plan) : Plan :=
  if Zak.pureL cs then k cs else Zby (Zav mark d) cs k

/-! ### Operations -/
def intOf : V → Option Int
  | .int _ n => some n
  | _ => none
def binI (op : BinOp) (k : IntKind) (a b : Int) : Option V :=
  match op with
  | .add => some (.int k (k.wrap (a + b)))
  | .sub => some (.int k (k.wrap (a - b)))
  | .mul => some (.int k (k.wrap (a * b)))
  | .quo => if b = 0 then none else some (.int k (k.wrap (a.tdiv b)))
  | .rem => if b = 0 then none else some (.int k (a.tmod b))
  | .and => some (.int k (k.wrap (BitVec.ofInt k.bits a &&& BitVec.ofInt k.bits b).toNat))
  | .or => some (.int k (k.wrap (BitVec.ofInt k.bits a ||| BitVec.ofInt k.bits b).toNat))
  | .xor => some (.int k (k.wrap (BitVec.ofInt k.bits a ^^^ BitVec.ofInt k.bits b).toNat))
  | .andNot => some (.int k (k.wrap (BitVec.ofInt k.bits a &&& ~~~ BitVec.ofInt k.bits b).toNat))
  | .eql => some (.bool (a == b))
  | .neq => some (.bool (a != b))
  | .lss => some (.bool (decide (a < b)))
  | .leq => some (.bool (decide (a ≤ b)))
  | .gtr => some (.bool (decide (a > b)))
  | .geq => some (.bool (decide (a ≥ b)))
  | _ => none
def shI (op : BinOp) (k : IntKind) (a b : Int) : Option V :=
  if b < 0 then none else match op with
  | .shl => some (.int k (k.wrap (a * 2 ^ (min b.toNat k.bits))))
  | .shr => some (.int k (a.fdiv (2 ^ (min b.toNat k.bits))))
  | _ => none
/-- Equality of scalars of a kind, and of structs and arrays of them. -/
def eqS : SK → V → V → Option Bool
  | .i, .int k a, .int k' b => if k = k' then some (a == b) else none
  | .b, .bool a, .bool b => some (a == b)
  | .s, .str a, .str b => some (a == b)
  | _, _, _ => none
def eqL : List SK → List V → List V → Option Bool
  | [], [], [] => some true
  | k :: ks, x :: xs, y :: ys => match eqS k x y with
    | some true => eqL ks xs ys
    | r => r
  | _, _, _ => none
def eqK (ag : Bool) (ks : List SK) (x y : V) : Option Bool :=
  match ag, x, y with
  | true, .agg xs, .agg ys => if xs.length = ks.length ∧ ys.length = ks.length then eqL ks xs ys else none
  | false, x, y => match ks with
    | [k] => eqS k x y
    | _ => none
  | _, _, _ => none
def Zgf (ng b : Bool) : V := .bool (if ng then !b else b)
/-- A slice (0), a pointer (1), a map (2), a function (3) against nil. -/
def eqnP (ng : Bool) (nk : Nat) (x y : V) : Plan :=
  match nk, x, y with
  | 0, .nils, .nils | 1, .nilp, .nilp | 2, .nilm, .nilm | 3, .nilf, .nilf => .ret (Zgf ng true)
  | 0, .arr .., .nils | 1, .ptr .., .nilp | 1, .pf .., .nilp | 2, .mp .., .nilm | 3, .fn .., .nilf => .ret (Zgf ng false)
  | 0, .sl id g _ _ _ _, .nils => .rd id g fun o => match o with
    | .cells _ .nilo => .ret (Zgf ng true)
    | .cells _ _ => .ret (Zgf ng false)
    | _ => .no
  | _, _, _ => .no
def retO : Option V → Plan
  | some v => .ret v
  | none => .no
def binP (op : BinOp) (x y : V) : Plan :=
  match op, x, y with
  | .shl, .int k a, .int _ b => retO (shI .shl k a b)
  | .shr, .int k a, .int _ b => retO (shI .shr k a b)
  | op, .int k a, .int k' b => if k = k' then retO (binI op k a b) else .no
  | _, _, _ => .no
def unV (op : UnOp) (x : V) : Option V :=
  match op, x with
  | .neg, .int k n => some (.int k (k.wrap (0 - n)))
  | .xor, .int k n => some (.int k (k.wrap (BitVec.ofInt k.bits (if k.signed then -1 else k.max) ^^^ BitVec.ofInt k.bits n).toNat))
  | .not, .bool b => some (.bool !b)
  | _, _ => none

/-- A bound of a slice expression: within 0 .. y. -/
def bnd (y : Nat) : V → Option Nat
  | .int _ n => if 0 ≤ n ∧ n ≤ y then some n.toNat else none
  | _ => none
def bndO (y d : Nat) : Option V → Option Nat
  | none => some d
  | some v => bnd y v
/-- x[lo:hi:mx] of a slice of so many elements, whose capacity is known, or not. -/
def cuts (len : Nat) (cap : Option Nat) (lo hi mx : Option V) : Option (Nat × Nat × Option Nat) :=
  match mx with
  | some v => match bnd (cap.getD len) v, hi with
    | some m, some hv => match bnd m hv with
      | some h => match bndO h 0 lo with
        | some l => some (l, h, some (m - l))
        | none => none
      | none => none
    | _, _ => none
  | none => match bndO (cap.getD len) len hi with
    | some h => match bndO h 0 lo with
      | some l => some (l, h, cap.map (· - l))
      | none => none
    | none => none
def slcV (sz : Nat) (x : V) (lo hi mx : Option V) : Option V :=
  match x with
  | .nils => (cuts 0 (some 0) lo hi mx).map fun _ => .nils
  | .arr cells sz' len cap => if sz' = sz then
      match cuts len cap lo hi mx with
      | some (l, h, c) => if h ≤ len then some (.arr (cut cells (l * sz) ((h - l) * sz)) sz (h - l) c) else none
      | none => none
    else none
  | .sl id g sz' off len cap => if sz' = sz then
      match cuts len cap lo hi mx with
      | some (l, h, c) => some (.sl id g sz (off + l * sz) (h - l) c)
      | none => none
    else none
  | _ => none
/-- The length of a slice (0), a string (1), a map (2). -/
def lenP (m : Nat) (x : V) : Plan :=
  match x with
  | .nils => if m = 0 then .ret (.int .i64 0) else .no
  | .nilm => if m = 2 then .ret (.int .i64 0) else .no
  | .arr _ _ len _ => if m = 0 then .ret (.int .i64 len) else .no
  | .sl _ _ _ _ len _ => if m = 0 then .ret (.int .i64 len) else .no
  | .str s => if m = 1 then .ret (.int .i64 s.size) else .no
  | .mpf ks _ => if m = 2 then .ret (.int .i64 ks.length) else .no
  | .mp id g => if m = 2 then .rd id g fun o => match o with
    | .map es => .ret (.int .i64 es.length)
    | _ => .no
    else .no
  | _ => .no
def capV : V → Option V
  | .nils => some (.int .i64 0)
  | .arr _ _ _ (some c) => some (.int .i64 c)
  | .sl _ _ _ _ _ (some c) => some (.int .i64 c)
  | _ => none
/-- The cells of a slice. -/
def Zjk (sz : Nat) (x : V) (k : List V → Nat → Plan) : Plan :=
  match x with
  | .nils => k [] 0
  | .arr cells sz' len _ => if sz' = sz ∧ cells.length = len * sz then k cells len else .no
  | .sl id g sz' off len _ => if sz' = sz then .rd id g fun o => match o with
      | .cells cs _ => if off + len * sz ≤ cs.length then k (cut cs off (len * sz)) len else .no
      | _ => .no
    else .no
  | _ => .no
def Zcp : Nat := 140737488355328
/-- append(s, x...); the new object, if there is one, is (id, g). -/
def appP (sz bytes id g : Nat) (s x : V) : Plan :=
  Zjk sz x fun news m =>
    match s with
    | .nils => if m = 0 then .ret .nils else if m * bytes ≤ Zcp ∧ 0 < bytes then .wr id (some (g, .cells news .loose)) (.ret (.sl id g sz 0 m none)) else .no
    | .arr cells sz' len (some c) =>
      if sz' = sz ∧ cells.length = len * sz ∧ c < len + m ∧ (len + m) * bytes ≤ Zcp ∧ 0 < bytes then
        .wr id (some (g, .cells (cells ++ news) .loose)) (.ret (.sl id g sz 0 (len + m) none))
      else .no
    | .sl i gi sz' off len cap => if sz' = sz ∧ (len + m) * bytes ≤ Zcp ∧ 0 < bytes then .rd i gi fun o => match o with
        | .cells cs kd =>
          if off + len * sz ≤ cs.length then
          match cap with
          | some c =>
            if c < len + m then .wr id (some (g, .cells (cut cs off (len * sz) ++ news) .loose)) (.ret (.sl id g sz 0 (len + m) none))
            else match kd with
              | .fixed | .loose => if off + (len + m) * sz ≤ cs.length then .wr i (some (gi, .cells (Zbf cs (off + len * sz) news) kd)) (.ret (.sl i gi sz off (len + m) (some c))) else .no
              | _ => .no
          | none => match kd with
            | .nilo => if m = 0 then .ret s else .wr i (some (g, .cells news .loose)) (.ret (.sl i g sz 0 m none))
            | .loose =>
              if off + (len + m) * sz ≤ cs.length then .wr i (some (gi, .cells (Zbf cs (off + len * sz) news) kd)) (.ret (.sl i gi sz off (len + m) none))
              else .wr i (some (g, .cells (cut cs off (len * sz) ++ news) .loose)) (.ret (.sl i g sz 0 (len + m) none))
            | _ => .no
          else .no
        | _ => .no
      else .no
    | _ => .no
def repl (n : Nat) (z : List V) : List V := (List.replicate n z).flatten
def Zjh (z : List V) : List (Nat × List V) → Option (List V)
  | [] => some z
  | (off, xs) :: ps => if off + xs.length ≤ z.length then Zjh (Zbf z off xs) ps else none
def Zez (vals : List V) (ps : List (Nat × Nat × Opd)) : Option (List (Nat × List V)) :=
  match vals, ps with
  | [], [] => some []
  | v :: vs, (off, n, _) :: ps => if Zcc v ∧ (Zbj v).length = n then (Zez vs ps).map ((off, Zbj v) :: ·) else none
  | _, _ => none
def Zgi (ag : Bool) (ks : List SK) (k : V) : List (V × V) → Nat → Option (Option Nat)
  | [], _ => some none
  | (k', _) :: es, i => match eqK ag ks k k' with
    | some true => some (some i)
    | some false => Zgi ag ks k es (i + 1)
    | none => none
def Zly (ag : Bool) (ks : List SK) : V → Bool
  | .agg cs => ag && cs.length == ks.length
  | _ => !ag
/-- Cells that hold nil slices become slices of the call's own. -/
def ownL : List (Nat × Nat) → Nat → Nat → List V → (List V → Plan) → Plan
  | [], _, _, cs, k => k cs
  | (j, sz) :: os, id, g, cs, k => match cs[j]? with
    | some .nils => if 0 < sz then .wr id (some (g, .cells [] .nilo)) (ownL os (id + 1) (g + 1) (cs.set j (.sl id g sz 0 0 none)) k) else .no
    | _ => .no

/-- The operands of an operation, in order. -/
def Aop.opds : Aop → List Opd
  | .mv x | .box x | .ld _ _ x | .nchk x | .un _ x | .conv _ x | .fad _ x | .fld _ _ _ x | .ext x _ | .len _ x | .cap x => [x]
  | .pick c a b => [c, a, b]
  | .alloc _ | .alen _ | .bad => []
  | .mkm r => r.toList
  | .build _ ps | .bsl _ _ _ ps => ps.map (·.2.2)
  | .st _ a x | .bin _ a x | .eqb _ _ _ a x | .eqn _ _ a x | .mks _ _ _ a x | .iad _ a x | .iap _ _ a x | .idx _ _ _ a x | .lkp _ _ _ _ a x | .app _ _ a x | .mx a x | .mn a x | .cpy _ a x | .six a x => [a, x]
  | .mkf _ fs cs => fs ++ cs
  | .slc _ x l h m => [x] ++ l.toList ++ h.toList ++ m.toList
  | .mup _ _ m k x => [m, k, x]
  | .call _ f args => f :: args

/-- The plan of an operation over its operands' values; 'callI': isolated calls; (id, g): its first own number and generation. -/
def Zaz (Zaq : Bool → Nat → List V → Option (V × Option (List V × Kd))) (own : List (Nat × Nat)) (id g : Nat) (op : Aop) (vals : List V) : Plan :=
  match op, vals with
  | .mv _, [v] => match own with
    | [] => .ret v
    | _ => ownL own id g (Zbj v) fun cs => match v, cs with
      | .agg _, cs => .ret (.agg cs)
      | _, [c] => .ret c
      | _, _ => .no
  | .pick .., [c, a, b] => match c with
    | .bool t => .ret (if t then a else b)
    | _ => .no
  | .box _, [v] => if Zcc v then .wr id (some (g, .cells (Zbj v) .fixed)) (.ret (.ptr id g 0)) else .no
  | .alloc z, [] => ownL own (id + 1) (g + 1) z fun cs => .wr id (some (g, .cells cs .fixed)) (.ret (.ptr id g 0))
  | .build z ps, vals => match Zez vals ps with
    | some l => match Zjh z l with
      | some cs => .ret (.agg cs)
      | none => .no
    | none => .no
  | .bsl sz len z ps, vals => match Zez vals ps with
    | some l => match Zjh (repl len z) l with
      | some cs => if z.length = sz ∧ 0 < sz ∧ len * sz ≤ 16777216 then .wr id (some (g, .cells cs .fixed)) (.ret (.sl id g sz 0 len (some len))) else .no
      | none => .no
    | none => .no
  | .ld n ag _, [a] => match a with
    | .ptr i gi off => .rd i gi fun o => match o with
      | .cells cs _ => if off + n ≤ cs.length then retO (mkV ag (cut cs off n)) else .no
      | _ => .no
    | .pf cs off => if off + n ≤ cs.length then retO (mkV ag (cut cs off n)) else .no
    | _ => .no
  | .st n _ _, [a, x] => match a with
    | .ptr i gi off => if Zcc x ∧ (Zbj x).length = n then ownL own id g (Zbj x) fun xs => .rd i gi fun o => match o with
        | .cells cs kd => match kd with
          | .fixed | .loose => if off + n ≤ cs.length then .wr i (some (gi, .cells (Zbf cs off xs) kd)) (.ret .junk) else .no
          | _ => .no
        | _ => .no
      else .no
    | _ => .no
  | .nchk _, [x] => match x with
    | .ptr .. | .pf .. | .fn .. => .ret x
    | _ => .no
  | .bin op _ _, [x, y] => binP op x y
  | .eqb ng ag ks _ _, [x, y] => match eqK ag ks x y with
    | some b => .ret (Zgf ng b)
    | none => .no
  | .eqn ng nk _ _, [x, y] => eqnP ng nk x y
  | .un op _, [x] => retO (unV op x)
  | .conv k _, [x] => match x with
    | .int _ n => .ret (.int k (k.wrap n))
    | _ => .no
  | .mkf f fs _, vals => .ret (.fn f (vals.take fs.length) (vals.drop fs.length))
  | .mkm none, [] => .wr id (some (g, .map [])) (.ret (.mp id g))
  | .mkm (some _), [.int _ _] => .wr id (some (g, .map [])) (.ret (.mp id g))
  | .mks sz bytes z _ _, [l, c] => match l, c with
    | .int _ l, .int _ c => if 0 ≤ l ∧ l ≤ c ∧ c * bytes ≤ Zcp ∧ 0 < bytes ∧ z.length = sz ∧ 0 < sz then
        .wr id (some (g, .cells (repl c.toNat z) .fixed)) (.ret (.sl id g sz 0 l.toNat (some c.toNat))) else .no
    | _, _ => .no
  | .slc sz _ l h m, x :: vs => match l, h, m, vs with
    | none, none, none, [] => retO (slcV sz x none none none)
    | some _, none, none, [l] => retO (slcV sz x (some l) none none)
    | none, some _, none, [h] => retO (slcV sz x none (some h) none)
    | some _, some _, none, [l, h] => retO (slcV sz x (some l) (some h) none)
    | none, some _, some _, [h, m] => retO (slcV sz x none (some h) (some m))
    | some _, some _, some _, [l, h, m] => retO (slcV sz x (some l) (some h) (some m))
    | _, _, _, _ => .no
  | .fad off _, [x] => match x with
    | .ptr i gi o => .ret (.ptr i gi (o + off))
    | .pf cs o => .ret (.pf cs (o + off))
    | _ => .no
  | .fld off n ag _, [x] => match x with
    | .agg cs => if off + n ≤ cs.length then retO (mkV ag (cut cs off n)) else .no
    | _ => .no
  | .iad sz _ _, [x, i] => match x, i with
    | .arr cs sz' len _, .int _ i => if sz' = sz ∧ 0 ≤ i ∧ i < len then .ret (.pf cs (i.toNat * sz)) else .no
    | .sl id g sz' off len _, .int _ i => if sz' = sz ∧ 0 ≤ i ∧ i < len then .ret (.ptr id g (off + i.toNat * sz)) else .no
    | _, _ => .no
  | .iap sz len _ _, [x, i] => match x, i with
    | .ptr id g off, .int _ i => if 0 ≤ i ∧ i < len then .ret (.ptr id g (off + i.toNat * sz)) else .no
    | .pf cs off, .int _ i => if 0 ≤ i ∧ i < len then .ret (.pf cs (off + i.toNat * sz)) else .no
    | _, _ => .no
  | .idx sz len ag _ _, [x, i] => match x, i with
    | .agg cs, .int _ i => if 0 ≤ i ∧ i < len ∧ i.toNat * sz + sz ≤ cs.length then retO (mkV ag (cut cs (i.toNat * sz) sz)) else .no
    | _, _ => .no
  | .lkp ag ks z ok _ _, [x, k] => match x with
    | .nilm => if Zly ag ks k then .ret (if ok then .tup [z, .bool false] else z) else .no
    | .mp i gi => if Zly ag ks k then .rd i gi fun o => match o with
      | .map es => match Zgi ag ks k es 0 with
        | some (some j) => match es[j]? with
          | some e => .ret (if ok then .tup [e.2, .bool true] else e.2)
          | none => .no
        | some none => .ret (if ok then .tup [z, .bool false] else z)
        | none => .no
      | _ => .no
      else .no
    | .mpf ks' vs' => if Zly ag ks k then match Zgi ag ks k (ks'.zip vs') 0 with
        | some (some j) => match (ks'.zip vs')[j]? with
          | some e => .ret (if ok then .tup [e.2, .bool true] else e.2)
          | none => .no
        | some none => .ret (if ok then .tup [z, .bool false] else z)
        | none => .no
      else .no
    | _ => .no
  | .mup ag ks _ _ _, [m, k, x] => match m with
    | .mp i gi => if Zcc x ∧ Zly ag ks k then .rd i gi fun o => match o with
        | .map es => match Zgi ag ks k es 0 with
          | some (some j) => .wr i (some (gi, .map (es.set j (k, x)))) (.ret .junk)
          | some none => .wr i (some (gi, .map (es ++ [(k, x)]))) (.ret .junk)
          | none => .no
        | _ => .no
      else .no
    | _ => .no
  | .ext _ i, [x] => match x with
    | .tup vs => match vs[i]? with
      | some v => .ret v
      | none => .no
    | _ => .no
  | .app sz bytes _ _, [s, x] => appP sz bytes id g s x
  | .len m _, [x] => lenP m x
  | .alen n, [] => .ret (.int .i64 n)
  | .six .., [x, i] => match x, i with
    | .str s, .int _ i => match (if 0 ≤ i then s[i.toNat]? else none) with
      | some b => .ret (.int .u8 b.toNat)
      | none => .no
    | _, _ => .no
  | .cap _, [x] => retO (capV x)
  | .mx .., [x, y] => match x, y with
    | .int k a, .int _ b => .ret (.int k (if b > a then b else a))
    | _, _ => .no
  | .mn .., [x, y] => match x, y with
    | .int k a, .int _ b => .ret (.int k (if b < a then b else a))
    | _, _ => .no
  | .cpy sz _ _, [d, s] => Zjk sz s fun xs m => match d with
    | .nils => .ret (.int .i64 0)
    | .sl i gi sz' off len _ => if sz' = sz then .rd i gi fun o => match o with
        | .cells cs kd => match kd with
          | .fixed | .loose => if off + len * sz ≤ cs.length then .wr i (some (gi, .cells (Zbf cs off (xs.take (min m len * sz))) kd)) (.ret (.int .i64 (min m len : Nat))) else .no
          | _ => .no
        | _ => .no
      else .no
    | _ => .no
  | .call m _ _, f :: args => match m, f with
    | .iso, .fn f fst caps => Zbg false 9 (fst ++ args ++ caps) fun args' => match Zaq false f args' with
      | some (v, none) => if Zak.pureL (fst ++ args ++ caps) || Zcz v then .ret v else .no
      | _ => .no
    | .fresh, .fn f fst caps => Zbg false 9 (fst ++ args ++ caps) fun args' => match Zaq true f args' with
      | some (.sl _ _ sz off len cap, some (cs, kd)) => if Zak.pureL (fst ++ args ++ caps) || Zcz.flatL cs then
          .wr id (some (g, .cells (cs.drop off) kd)) (.ret (.sl id g sz 0 len cap)) else .no
      | some (v, none) => if Zak.pureL (fst ++ args ++ caps) || Zcz v then .ret v else .no
      | _ => .no
    | _, _ => .no
  | _, _ => .no

def Zep (e : List V) : Option (Nat × Bool) → Option Bool
  | none => some true
  | some (t, want) => match getE e t with
    | .bool b => some (b == want)
    | .tup [] => some false
    | _ => none
/-- The plan of an operation of a region. -/
def Zdc (Zaq : Bool → Nat → List V → Option (V × Option (List V × Kd))) (r : RS) (base γ : Nat) (e : List V) : Plan :=
  let vals := r.op.opds.map (Zbz e)
  if r.frz then Zbg true 9 vals fun vals' => Zaz Zaq r.own (base + r.at_) (γ + r.at_) r.op vals'
  else Zaz Zaq r.own (base + r.at_) (γ + r.at_) r.op vals

def Zho : Aop → Bool
  | .call .raw _ _ => true
  | _ => false

/-- One operation that is no raw call: the environment, the heap, what was read and written. -/
def Zda (Zaq : Bool → Nat → List V → Option (V × Option (List V × Kd))) (r : RS) (base γ : Nat) (e : List V) (H : Heap) : Option (List V × Heap × List Nat × List Nat) :=
  match Zep e r.grd with
  | none => none
  | some false => some (putO e r.dst (.tup []), H, [], [])
  | some true => if Zho r.op then none else match runP (Zdc Zaq r base γ e) H with
    | some (v, H', rs, ws) => some (putO e r.dst v, H', rs, ws)
    | none => none

/-- A region in the order of its text; raw calls by 'callR'. -/
def Zcm (Zaq : Bool → Nat → List V → Option (V × Option (List V × Kd))) (callR : V → List V → Heap → Nat → Option (V × Heap × Nat)) (base γ : Nat) : List RS → St → Option St
  | [], s => some s
  | r :: rs, s => match r.op with
    | .call .raw f args => match Zep s.env r.grd with
      | none => none
      | some false => Zcm Zaq callR base γ rs { s with env := putO s.env r.dst (.tup []) }
      | some true => match callR (Zbz s.env f) (args.map (Zbz s.env)) s.H s.γ with
        | some (v, H', γ') => Zcm Zaq callR base γ rs ⟨putO s.env r.dst v, H', γ', s.rd⟩
        | none => none
    | _ => match Zda Zaq r base γ s.env s.H with
      | some (e, H', _, _) => Zcm Zaq callR base γ rs ⟨e, H', s.γ, s.rd⟩
      | none => none

def Zxu (l : List Opd) : List Nat := l.filterMap fun | .t n => some n | _ => none
def RS.looks (r : RS) : List Nat := Zxu r.op.opds ++ (match r.grd with | some (t, _) => [t] | none => [])
/-- Two operations of which neither sees the other's result. -/
def Zim (x y : RS) : Bool :=
  (match x.dst with | some d => !(y.looks.contains d) && (match y.dst with | some d' => d != d' | none => true) | none => true) &&
  (match y.dst with | some d => !(x.looks.contains d) | none => true)
def disj (a b : List Nat) : Bool := a.all fun x => !(b.contains x)
def Zkd (x y : List Nat × List Nat) : Bool := disj x.2 (y.1 ++ y.2) && disj y.2 x.1
/-- Is an operation apart from those before it on which it does not depend? -/
def Zcw (dep : List Nat) (r : RS) (log : List Nat × List Nat) : List (Nat × RS × (List Nat × List Nat)) → Bool
  | [] => true
  | (j, rj, lj) :: l => (dep.contains j || (Zim rj r && Zkd lj log)) && Zcw dep r log l
/-- A region whose order is open: in the order of its text, each operation held against those before it. -/
def runD (Zaq : Bool → Nat → List V → Option (V × Option (List V × Kd))) (base γ : Nat) : Nat → List (List Nat) → List RS → List (Nat × RS × (List Nat × List Nat)) → List V → Heap → Option (List V × Heap)
  | _, _, [], _, e, H => some (e, H)
  | i, dep, r :: rs, past, e, H => match Zda Zaq r base γ e H with
    | some (e', H', a, b) => if Zcw (dep.headD []) r (a, b) past then runD Zaq base γ (i + 1) dep.tail rs ((i, r, (a, b)) :: past) e' H' else none
    | none => none

/-! ### Code -/
def Zjt (e : List V) (H : Heap) : ARes → Option V
  | .tmp t => some (getE e t)
  | .cell t n ag => match getE e t with
    | .ptr i g off => match getH H i g with
      | some (.cells cs _) => if off + n ≤ cs.length then mkV ag (cut cs off n) else none
      | _ => none
    | _ => none
def resL (e : List V) (H : Heap) : List ARes → Option (List V)
  | [] => some []
  | r :: rs => match Zjt e H r with
    | some v => (resL e H rs).map (v :: ·)
    | none => none
def resV (e : List V) (H : Heap) (l : List ARes) : Option V :=
  match resL e H l with
  | some [v] => some v
  | some vs => some (.tup vs)
  | none => none

section
variable (P : Zce) (E : AC → St → Option (Ex × St))
/-- A call of a function, on the caller's heap: its result, the heap, the next generation. -/
def Zdo (f : Nat) (args : List V) (H : Heap) (γ : Nat) : Option (V × Heap × Nat) :=
  match P f with
  | none => none
  | some fn => if args.length = fn.np then match E fn.body ⟨env0 fn.nt args, H, γ, none⟩ with
      | some (.normal, s) | some (.ret, s) => match resV s.env s.H fn.res with
        | some v => some (v, if fn.keep then s.H else s.H.take H.length, s.γ)
        | none => none
      | _ => none
    else none
def warm (H : Heap) (i g : Nat) : Bool := match getH H i g with
  | some (.cells _ .fixed) | some (.cells _ .loose) => true
  | _ => false
def Zdm (v : V) (H : Heap) : Option (V × Option (List V × Kd)) :=
  match runP (Zav true 9 v .ret) H with
  | some (v', _) => some (v', none)
  | none => none
/-- A call of a function on a heap of its own: a value that holds nothing of that heap; or, where it is asked for ('fr'), a slice of its own, with its cells. -/
def Zaq (fr : Bool) (f : Nat) (args : List V) : Option (V × Option (List V × Kd)) :=
  match P f with
  | none => none
  | some fn => if args.length = fn.np then match E fn.body ⟨env0 fn.nt args, [], 0, none⟩ with
      | some (.normal, s) | some (.ret, s) => match resV s.env s.H fn.res with
        | some v => if fr then match v with
            | .sl i g sz off len cap => match getH s.H i g with
              | some (.cells cs kd) => match kd with
                | .fixed | .loose => match runP (Zbg true 9 cs fun cs' => .ret (.agg cs')) s.H with
                  | some (.agg cs', H1, _) => if off + len * sz ≤ cs'.length ∧ warm H1 i g then some (.sl i g sz off len cap, some (cs', kd)) else none
                  | _ => none
                | _ => Zdm v s.H
              | _ => none
            | _ => Zdm v s.H
          else Zdm v s.H
        | none => none
      | _ => none
    else none
def putL (e : List V) : List Nat → List V → List V
  | p :: ps, v :: vs => putL (putE e p v) ps vs
  | _, _ => e
/-- A call of a function value, or of a loop's body. -/
def Zek (f : V) (args : List V) (H : Heap) (γ : Nat) : Option (V × Heap × Nat) :=
  match f with
  | .fn k fst caps => Zdo P E k (fst ++ args ++ caps) H γ
  | .yld id g => match getH H id g with
    | some (.loop .ready _ keep env ps asg body) => if args.length = ps.length then
        match E asg ⟨putL env ps args, H, γ, some (id, g)⟩ with
        | some (.normal, s1) => match getH s1.H id g with
          | some (.loop .ready p0 k0 e0 ps0 a0 b0) =>
            match E body ⟨s1.env, s1.H.set id (some (g, .loop .busy p0 k0 e0 ps0 a0 b0)), s1.γ, some (id, g)⟩ with
            | some (e, s2) => match getH s2.H id g with
              | some (.loop _ _ k1 e1 ps1 a1 b1) =>
                let H3 := s2.H.set id (some (g, match e with
                  | .normal => .loop .ready none k1 e1 ps1 a1 b1
                  | .ret => .loop .done (some .ret) k1 e1 ps1 a1 b1
                  | .exit i => .loop .done (some (.exit i)) k1 e1 ps1 a1 b1))
                some (.bool (match e with | .normal => true | _ => false), if keep then H3 else H3.take H.length, s2.γ)
              | _ => none
            | none => none
          | _ => none
        | _ => none
      else none
    | _ => none
  | _ => none

def Zpd (b : Option Nat) (s : St) : St := match b with
  | some n => { s with H := s.H.take n }
  | none => s
def rdOK (s : St) : Bool := match s.rd with
  | none => true
  | some (id, g) => match getH s.H id g with
    | some (.loop ..) => true
    | _ => false
def step (c : AC) (s : St) : Option (Ex × St) :=
  match c with
  | .skip => some (.normal, s)
  | .reg tot ops => match Zcm (Zaq P E) (Zek P E) s.H.length s.γ ops ⟨s.env, s.H ++ List.replicate tot none, s.γ + tot, s.rd⟩ with
    | some s' => some (.normal, s')
    | none => none
  | .regd dep tot ops => match runD (Zaq P E) s.H.length s.γ 0 dep ops [] s.env (s.H ++ List.replicate tot none) with
    | some (e, H) => some (.normal, ⟨e, H, s.γ + tot, s.rd⟩)
    | none => none
  | .seq a b => match E a s with
    | some (.normal, s1) => E b s1
    | r => r
  | .cond x a b => match Zbz s.env x with
    | .bool true => E a s
    | .bool false => E b s
    | _ => none
  | .block id c => match E c s with
    | some (.exit i, s1) => if i = id then some (.normal, s1) else some (.exit i, s1)
    | r => r
  | .loop keep c => E (.inl (if keep then none else some s.H.length) c) s
  | .inl b c => match E c (Zpd b s) with
    | some (.normal, s1) => E (.inl b c) s1
    | r => r
  | .exit id => some (.exit id, s)
  | .ret => some (.ret, s)
  | .rngf keep f ps asg body => match Zbz s.env f with
    | .fn k fst caps => if rdOK s then match Zdo P E k (fst ++ [.yld s.H.length s.γ] ++ caps) (s.H ++ [some (s.γ, .loop .ready none keep s.env ps asg body)]) (s.γ + 1) with
      | some (_, H2, γ2) => match getH H2 s.H.length s.γ with
        | some (.loop st pend _ _ _ _ _) => match st with
          | .busy => none
          | _ => match pend with
            | none => some (.normal, ⟨s.env, if keep then H2.set s.H.length none else H2.take s.H.length, γ2, s.rd⟩)
            | some c => E c ⟨s.env, if keep then H2.set s.H.length none else H2.take s.H.length, γ2, s.rd⟩
        | _ => none
      | none => none
      else none
    | _ => none
end

def exec (P : Zce) : Nat → AC → St → Option (Ex × St)
  | 0 => fun _ _ => none
  | n + 1 => step P (exec P n)

end Go.AM

set_option linter.unusedVariables false
namespace Go.AM

def PLe (p q : Plan) : Prop := ∀ H o, runP p H = some o → runP q H = some o
theorem PLe.refl (p : Plan) : PLe p p := fun _ _ h => h
theorem PLe.no (q : Plan) : PLe .no q := fun _ _ h => by simp [runP] at h
theorem PLe.rd {id g : Nat} {k k' : O → Plan} (h : ∀ o, PLe (k o) (k' o)) : PLe (.rd id g k) (.rd id g k') := fun H o hp => by
  simp only [runP] at hp ⊢
  cases hg : getH H id g with
  | none => rw [hg] at hp; cases hp
  | some q =>
    rw [hg] at hp
    simp only at hp ⊢
    cases hk : runP (k q) H with
    | none => rw [hk] at hp; cases hp
    | some r => rw [hk] at hp; rw [h q H r hk]; exact hp
theorem PLe.wr {id : Nat} {x : Option (Nat × O)} {k k' : Plan} (h : PLe k k') : PLe (.wr id x k) (.wr id x k') := fun H o hp => by
  simp only [runP] at hp ⊢
  split at hp
  · rename_i hlt
    rw [if_pos hlt]
    cases hk : runP k (H.set id x) with
    | none => rw [hk] at hp; cases hp
    | some r => rw [hk] at hp; rw [h _ r hk]; exact hp
  · cases hp
theorem PLe.ite {c : Prop} [Decidable c] {a a' b b' : Plan} (h : PLe a a') (h' : PLe b b') : PLe (if c then a else b) (if c then a' else b') := by
  by_cases hc : c
  · simp only [if_pos hc]; exact h
  · simp only [if_neg hc]; exact h'

def Yfm (f : V → (V → Plan) → Plan) : Prop := ∀ v k k', (∀ v', PLe (k v') (k' v')) → PLe (f v k) (f v k')
theorem Zdi {f : V → (V → Plan) → Plan} (hf : Yfm f) : ∀ (cs : List V) (k k' : List V → Plan), (∀ cs', PLe (k cs') (k' cs')) → PLe (Zby f cs k) (Zby f cs k')
  | [], k, k', h => h []
  | c :: cs, k, k', h => hf c _ _ fun c' => Zdi hf cs _ _ fun cs' => h (c' :: cs')
theorem Zpo {mark : Bool} {id g sz off len : Nat} {cap : Option Nat} {kd : Kd} {k k' : V → Plan} (h : ∀ v', PLe (k v') (k' v')) (cs : List V) : PLe (frzK mark id g sz off len cap kd k cs) (frzK mark id g sz off len cap kd k' cs) := by
  unfold frzK
  cases kd <;> first | exact h _ | exact PLe.ite (PLe.wr (h _)) (h _)
theorem Zjx (mark : Bool) : ∀ d : Nat, Yfm (Zav mark d)
  | 0 => fun v k k' h => by unfold Zav; exact PLe.ite (h v) (PLe.no _)
  | d + 1 => fun v k k' h => by
    have ih := Zjx mark d
    have ih' : mark = false → Yfm (Zav false d) := fun e => by subst e; exact ih
    unfold Zav
    refine PLe.ite (h v) ?_
    cases v <;> simp only <;> (try exact PLe.no _)
    case sl id g sz off len cap =>
      refine PLe.rd fun o => ?_
      cases o <;> simp only <;> (try exact PLe.no _)
      exact PLe.ite (PLe.ite (Zpo h _) (Zdi ih _ _ _ fun cs' => Zpo h cs')) (PLe.no _)
    case ptr id g off =>
      cases mark <;> simp only <;> (try exact PLe.no _)
      refine PLe.rd fun o => ?_
      cases o <;> simp only <;> (try exact PLe.no _)
      rename_i cs kd
      cases kd <;> simp only <;> (try exact PLe.no _)
      all_goals exact Zdi ih _ _ _ fun cs' => h _
    case mp id g =>
      cases mark <;> simp only <;> (try exact PLe.no _)
      refine PLe.rd fun o => ?_
      cases o <;> simp only <;> (try exact PLe.no _)
      exact PLe.ite (Zdi ih _ _ _ fun cs' => h _) (PLe.no _)
    case fn f fst caps => exact Zdi ih _ _ _ fun fst' => Zdi ih _ _ _ fun caps' => h _
    case agg cs => exact Zdi ih _ _ _ fun cs' => h _
    case tup cs => exact Zdi ih _ _ _ fun cs' => h _
theorem Zgm {mark : Bool} {d : Nat} {cs : List V} {k k' : List V → Plan} (h : ∀ cs', PLe (k cs') (k' cs')) : PLe (Zbg mark d cs k) (Zbg mark d cs k') := by
  unfold Zbg
  exact PLe.ite (h cs) (Zdi (Zjx mark d) _ _ _ h)

abbrev CI' := Bool → Nat → List V → Option (V × Option (List V × Kd))
theorem Zmw {ci ci' : CI'} (hc : ∀ b f as r, ci b f as = some r → ci' b f as = some r) (own : List (Nat × Nat)) (id g : Nat) (op : Aop) (vals : List V) : PLe (Zaz ci own id g op vals) (Zaz ci' own id g op vals) := by
  by_cases hcall : ∃ m f as, op = .call m f as
  · obtain ⟨m, f, as, rfl⟩ := hcall
    unfold Zaz
    cases vals with
    | nil => exact PLe.no _
    | cons fv args =>
      simp only
      cases m <;> cases fv <;> simp only <;> (try exact PLe.no _)
      · refine Zgm fun as' => ?_
        cases hq : ci false _ as' with
        | none => exact PLe.no _
        | some q => rw [hc _ _ _ _ hq]; exact PLe.refl _
      · refine Zgm fun as' => ?_
        cases hq : ci true _ as' with
        | none => exact PLe.no _
        | some q => rw [hc _ _ _ _ hq]; exact PLe.refl _
  · have : Zaz ci own id g op vals = Zaz ci' own id g op vals := by
      cases op
      case call m f as => exact absurd ⟨m, f, as, rfl⟩ hcall
      case mkm r => cases r <;> (rcases vals with _ | ⟨a, _ | ⟨b, l⟩⟩ <;> (try rfl)) <;> (cases a <;> rfl)
      all_goals (rcases vals with _ | ⟨a, _ | ⟨b, _ | ⟨c, _ | ⟨d, _ | ⟨e, l⟩⟩⟩⟩⟩ <;> rfl)
    rw [this]; exact PLe.refl _

theorem Zgt {ci ci' : CI'} (hc : ∀ b f as r, ci b f as = some r → ci' b f as = some r) {r : RS} {base γ : Nat} {e : List V} {H : Heap} {o : List V × Heap × List Nat × List Nat} (h : Zda ci r base γ e H = some o) : Zda ci' r base γ e H = some o := by
  unfold Zda at h ⊢
  split at h
  · cases h
  · exact h
  · split at h
    · cases h
    · rename_i hr
      rw [if_neg hr]
      have hp : PLe (Zdc ci r base γ e) (Zdc ci' r base γ e) := by
        unfold Zdc
        exact PLe.ite (Zgm fun vals' => Zmw hc _ _ _ _ _) (Zmw hc _ _ _ _ _)
      split at h
      · rename_i v H' rs ws hrun
        rw [hp _ _ hrun]; exact h
      · cases h
theorem Zlf {ci ci' : CI'} (hc : ∀ b f as r, ci b f as = some r → ci' b f as = some r) {base γ : Nat} : ∀ {rs : List RS} {i : Nat} {dep : List (List Nat)} {past : List (Nat × RS × (List Nat × List Nat))} {e : List V} {H : Heap} {o : List V × Heap}, runD ci base γ i dep rs past e H = some o → runD ci' base γ i dep rs past e H = some o
  | [], _, _, _, _, _, _, h => h
  | r :: rs, i, dep, past, e, H, o, h => by
    unfold runD at h ⊢
    split at h
    · rename_i e' H' a b hs
      rw [Zgt hc hs]
      simp only
      split at h
      · rename_i ha
        rw [if_pos ha]; exact Zlf hc h
      · cases h
    · cases h
theorem Zen {ci ci' : CI'} {cr cr' : V → List V → Heap → Nat → Option (V × Heap × Nat)} (hc : ∀ b f as r, ci b f as = some r → ci' b f as = some r) (hr : ∀ f as H γ r, cr f as H γ = some r → cr' f as H γ = some r) {base γ : Nat} : ∀ {rs : List RS} {s s' : St}, Zcm ci cr base γ rs s = some s' → Zcm ci' cr' base γ rs s = some s'
  | [], _, _, h => h
  | r :: rs, s, s', h => by
    unfold Zcm at h ⊢
    split at h
    · split at h
      · cases h
      · exact Zen hc hr h
      · split at h
        · rename_i v H' γ' hcall
          rw [hr _ _ _ _ _ hcall]; exact Zen hc hr h
        · cases h
    · split at h
      · rename_i e H' a b hs
        rw [Zgt hc hs]; exact Zen hc hr h
      · cases h

abbrev EE := AC → St → Option (Ex × St)
def ELe (E E' : EE) : Prop := ∀ c s r, E c s = some r → E' c s = some r
variable {P : Zce} {E E' : EE}
theorem Zjs (h : ELe E E') {f : Nat} {args : List V} {H : Heap} {γ : Nat} {r : V × Heap × Nat} (hc : Zdo P E f args H γ = some r) : Zdo P E' f args H γ = some r := by
  unfold Zdo at hc ⊢
  split at hc
  · cases hc
  · split at hc
    · rename_i hl
      simp only [hl, if_true]
      split at hc
      · rename_i s he; rw [h _ _ _ he]; exact hc
      · rename_i s he; rw [h _ _ _ he]; exact hc
      · cases hc
    · cases hc
theorem Zbo (h : ELe E E') {fr : Bool} {f : Nat} {args : List V} {r : V × Option (List V × Kd)} (hc : Zaq P E fr f args = some r) : Zaq P E' fr f args = some r := by
  unfold Zaq at hc ⊢
  split at hc
  · cases hc
  · split at hc
    · rename_i hl
      simp only [hl, if_true]
      split at hc
      · rename_i s he; rw [h _ _ _ he]; exact hc
      · rename_i s he; rw [h _ _ _ he]; exact hc
      · cases hc
    · cases hc
theorem Zme (h : ELe E E') {f : V} {args : List V} {H : Heap} {γ : Nat} {r : V × Heap × Nat} (hc : Zek P E f args H γ = some r) : Zek P E' f args H γ = some r := by
  unfold Zek at hc ⊢
  cases f <;> simp only at hc ⊢ <;> (try (cases hc; done))
  case fn k fst caps => exact Zjs h hc
  case yld id g =>
    split at hc
    · rename_i p1 keep env ps asg body hg
      try simp only
      split at hc
      · rename_i hl
        rw [if_pos hl]
        split at hc
        · rename_i s1 he1
          rw [h _ _ _ he1]
          simp only
          split at hc
          · rename_i p0 k0 e0 ps0 a0 b0 hg1
            try simp only
            split at hc
            · rename_i e s2 he2
              rw [h _ _ _ he2]
              exact hc
            · cases hc
          · cases hc
        · cases hc
      · cases hc
    · cases hc
theorem Zot (h : ELe E E') : ELe (step P E) (step P E') := by
  intro c s r hc
  cases c <;> simp only [step] at hc ⊢ <;> (try exact hc)
  case reg tot ops =>
    split at hc
    · rename_i s' hs
      rw [Zen (fun b f as r => Zbo h) (fun f as H γ r => Zme h) hs]; exact hc
    · cases hc
  case regd dep tot ops =>
    split at hc
    · rename_i e H hs
      rw [Zlf (fun b f as r => Zbo h) hs]; exact hc
    · cases hc
  case seq a b =>
    cases he : E a s with
    | none => rw [he] at hc; cases hc
    | some q =>
      rw [he] at hc
      rw [h _ _ _ he]
      obtain ⟨ex, s1⟩ := q
      cases ex <;> simp only at hc ⊢
      · exact h _ _ _ hc
      · exact hc
      · exact hc
  case cond x a b =>
    split at hc
    · exact h _ _ _ hc
    · exact h _ _ _ hc
    · cases hc
  case block id c =>
    cases he : E c s with
    | none => rw [he] at hc; cases hc
    | some q => rw [he] at hc; rw [h _ _ _ he]; exact hc
  case loop keep c => exact h _ _ _ hc
  case inl b c =>
    cases he : E c (Zpd b s) with
    | none => rw [he] at hc; cases hc
    | some q =>
      rw [he] at hc
      rw [h _ _ _ he]
      obtain ⟨ex, s1⟩ := q
      cases ex <;> simp only at hc ⊢
      · exact h _ _ _ hc
      · exact hc
      · exact hc
  case rngf keep f ps asg body =>
    split at hc
    · split at hc
      · rename_i hrd
        rw [if_pos hrd]
        split at hc
        · rename_i v H2 γ2 hcall
          rw [Zjs h hcall]
          simp only
          split at hc
          · rename_i st pend k1 e1 ps1 a1 b1 hg
            try simp only
            cases st <;> simp only at hc ⊢ <;> (try (cases hc; done)) <;> (cases pend with
              | none => exact hc
              | some c => exact h _ _ _ hc)
          · cases hc
        · cases hc
      · cases hc
    · cases hc
theorem Zpx : ∀ n, ELe (exec P n) (exec P (n + 1))
  | 0 => fun c s r h => by simp [exec] at h
  | n + 1 => Zot (Zpx n)
/-- **More fuel does not hurt.** -/
theorem Zcy {n m : Nat} (hnm : n ≤ m) : ELe (exec P n) (exec P m) := by
  induction hnm with
  | refl => exact fun _ _ _ h => h
  | step _ ih => exact fun c s r h => Zpx _ c s r (ih c s r h)
end Go.AM

set_option linter.unusedVariables false
namespace Go.AM

variable (P : Zce)
open Classical in
/-- What a piece of code computes with enough fuel. -/
noncomputable def X : EE := fun c s => if h : ∃ n r, exec P n c s = some r then some h.choose_spec.choose else none
variable {P : Zce}
theorem X_of {n : Nat} {c : AC} {s : St} {r : Ex × St} (h : exec P n c s = some r) : X P c s = some r := by
  have hx : ∃ n r, exec P n c s = some r := ⟨n, r, h⟩
  unfold X
  rw [dif_pos hx]
  have h2 := hx.choose_spec.choose_spec
  have h3 := Zcy (Nat.le_max_left n hx.choose) _ _ _ h
  have h4 := Zcy (Nat.le_max_right n hx.choose) _ _ _ h2
  rw [h3] at h4
  exact h4.symm
theorem X_ex {c : AC} {s : St} {r : Ex × St} (h : X P c s = some r) : ∃ n, exec P n c s = some r := by
  unfold X at h
  split at h
  · rename_i hx
    refine ⟨hx.choose, ?_⟩
    have := hx.choose_spec.choose_spec
    rw [this]; exact h
  · cases h
theorem Zet (n : Nat) : ELe (exec P n) (X P) := fun _ _ _ h => X_of h

/-! ### What the limit computes, some 'exec' computes -/
abbrev CO := V → List V → Heap → Nat → Option (V × Heap × Nat)
theorem Zje {fr : Bool} {f : Nat} {args : List V} {q : V × Option (List V × Kd)} (h : Zaq P (X P) fr f args = some q) : ∃ n, Zaq P (exec P n) fr f args = some q := by
  unfold Zaq at h
  split at h
  · cases h
  · rename_i fn hf
    split at h
    · rename_i hl
      split at h
      · rename_i s he
        obtain ⟨n, hn⟩ := X_ex he
        refine ⟨n, ?_⟩
        unfold Zaq
        rw [hf]
        simp only [hl, if_true, hn]
        exact h
      · rename_i s he
        obtain ⟨n, hn⟩ := X_ex he
        refine ⟨n, ?_⟩
        unfold Zaq
        rw [hf]
        simp only [hl, if_true, hn]
        exact h
      · cases h
    · cases h
theorem Zmx {f : Nat} {args : List V} {H : Heap} {γ : Nat} {q : V × Heap × Nat} (h : Zdo P (X P) f args H γ = some q) : ∃ n, Zdo P (exec P n) f args H γ = some q := by
  unfold Zdo at h
  split at h
  · cases h
  · rename_i fn hf
    split at h
    · rename_i hl
      split at h
      · rename_i s he
        obtain ⟨n, hn⟩ := X_ex he
        refine ⟨n, ?_⟩
        unfold Zdo
        rw [hf]
        simp only [hl, if_true, hn]
        exact h
      · rename_i s he
        obtain ⟨n, hn⟩ := X_ex he
        refine ⟨n, ?_⟩
        unfold Zdo
        rw [hf]
        simp only [hl, if_true, hn]
        exact h
      · cases h
    · cases h
theorem Zuv {f : V} {args : List V} {H : Heap} {γ : Nat} {q : V × Heap × Nat} (h : Zek P (X P) f args H γ = some q) : ∃ n, Zek P (exec P n) f args H γ = some q := by
  unfold Zek at h
  cases f <;> simp only at h <;> (try (cases h; done))
  case fn k fst caps => obtain ⟨n, hn⟩ := Zmx h; exact ⟨n, hn⟩
  case yld id g =>
    split at h
    · rename_i p1 keep env ps asg body hg
      split at h
      · rename_i hl
        split at h
        · rename_i s1 he1
          split at h
          · rename_i p0 k0 e0 ps0 a0 b0 hg1
            split at h
            · rename_i e s2 he2
              obtain ⟨n1, h1⟩ := X_ex he1
              obtain ⟨n2, h2⟩ := X_ex he2
              refine ⟨max n1 n2, ?_⟩
              unfold Zek
              simp only [hg, hl, if_true, Zcy (Nat.le_max_left n1 n2) _ _ _ h1, hg1, Zcy (Nat.le_max_right n1 n2) _ _ _ h2]
              exact h
            · cases h
          · cases h
        · cases h
      · cases h
    · cases h

/-- What a plan computes, one of a row of plans computes. -/
def PCo (p : Plan) (q : Nat → Plan) : Prop := ∀ H o, runP p H = some o → ∃ n, runP (q n) H = some o
theorem PCo.refl (p : Plan) : PCo p fun _ => p := fun _ _ h => ⟨0, h⟩
theorem PCo.no (q : Nat → Plan) : PCo .no q := fun _ _ h => by simp [runP] at h
theorem PCo.rd {id g : Nat} {k : O → Plan} {k' : Nat → O → Plan} (h : ∀ o, PCo (k o) (fun n => k' n o)) : PCo (.rd id g k) (fun n => .rd id g (k' n)) := fun H o hp => by
  simp only [runP] at hp ⊢
  cases hg : getH H id g with
  | none => rw [hg] at hp; cases hp
  | some q =>
    rw [hg] at hp
    simp only at hp ⊢
    cases hk : runP (k q) H with
    | none => rw [hk] at hp; cases hp
    | some r =>
      rw [hk] at hp
      obtain ⟨n, hn⟩ := h q H r hk
      exact ⟨n, by rw [hn]; exact hp⟩
theorem PCo.wr {id : Nat} {x : Option (Nat × O)} {k : Plan} {k' : Nat → Plan} (h : PCo k k') : PCo (.wr id x k) (fun n => .wr id x (k' n)) := fun H o hp => by
  simp only [runP] at hp ⊢
  split at hp
  · rename_i hlt
    simp only [if_pos hlt]
    cases hk : runP k (H.set id x) with
    | none => rw [hk] at hp; cases hp
    | some r =>
      rw [hk] at hp
      obtain ⟨n, hn⟩ := h _ r hk
      exact ⟨n, by rw [hn]; exact hp⟩
  · cases hp
theorem PCo.ite {c : Prop} [Decidable c] {a b : Plan} {a' b' : Nat → Plan} (h : PCo a a') (h' : PCo b b') : PCo (if c then a else b) (fun n => if c then a' n else b' n) := by
  by_cases hc : c
  · simp only [if_pos hc]; exact h
  · simp only [if_neg hc]; exact h'
def Yhp (f : V → (V → Plan) → Plan) : Prop := ∀ v (k : V → Plan) (k' : Nat → V → Plan), (∀ v', PCo (k v') (fun n => k' n v')) → PCo (f v k) (fun n => f v (k' n))
theorem Zdj {f : V → (V → Plan) → Plan} (hf : Yhp f) : ∀ (cs : List V) (k : List V → Plan) (k' : Nat → List V → Plan), (∀ cs', PCo (k cs') (fun n => k' n cs')) → PCo (Zby f cs k) (fun n => Zby f cs (k' n))
  | [], k, k', h => h []
  | c :: cs, k, k', h => hf c _ (fun n c' => Zby f cs fun cs' => k' n (c' :: cs')) fun c' => Zdj hf cs _ _ fun cs' => h (c' :: cs')
theorem Zqd {mark : Bool} {id g sz off len : Nat} {cap : Option Nat} {kd : Kd} {k : V → Plan} {k' : Nat → V → Plan} (h : ∀ v', PCo (k v') (fun n => k' n v')) (cs : List V) : PCo (frzK mark id g sz off len cap kd k cs) (fun n => frzK mark id g sz off len cap kd (k' n) cs) := by
  unfold frzK
  cases kd <;> first | exact h _ | exact PCo.ite (PCo.wr (h _)) (h _)
theorem Zka (mark : Bool) : ∀ d : Nat, Yhp (Zav mark d)
  | 0 => fun v k k' h => by unfold Zav; exact PCo.ite (h v) (PCo.no _)
  | d + 1 => fun v k k' h => by
    have ih := Zka mark d
    have ih' : mark = false → Yhp (Zav false d) := fun e => by subst e; exact ih
    unfold Zav
    refine PCo.ite (h v) ?_
    cases v <;> simp only <;> (try exact PCo.no _)
    case sl id g sz off len cap =>
      refine PCo.rd fun o => ?_
      cases o <;> simp only <;> (try exact PCo.no _)
      exact PCo.ite (PCo.ite (Zqd h _) (Zdj ih _ _ _ fun cs' => Zqd h cs')) (PCo.no _)
    case ptr id g off =>
      cases mark <;> simp only <;> (try exact PCo.no _)
      refine PCo.rd fun o => ?_
      cases o <;> simp only <;> (try exact PCo.no _)
      rename_i cs kd
      cases kd <;> simp only <;> (try exact PCo.no _)
      all_goals exact Zdj ih _ _ _ fun cs' => h _
    case mp id g =>
      cases mark <;> simp only <;> (try exact PCo.no _)
      refine PCo.rd fun o => ?_
      cases o <;> simp only <;> (try exact PCo.no _)
      exact PCo.ite (Zdj ih _ _ _ fun cs' => h _) (PCo.no _)
    case fn f fst caps => exact Zdj ih _ _ _ fun fst' => Zdj ih _ _ _ fun caps' => h _
    case agg cs => exact Zdj ih _ _ _ fun cs' => h _
    case tup cs => exact Zdj ih _ _ _ fun cs' => h _
theorem Zgk {mark : Bool} {d : Nat} {cs : List V} {k : List V → Plan} {k' : Nat → List V → Plan} (h : ∀ cs', PCo (k cs') (fun n => k' n cs')) : PCo (Zbg mark d cs k) (fun n => Zbg mark d cs (k' n)) := by
  unfold Zbg
  exact PCo.ite (h cs) (Zdj (Zka mark d) _ _ _ h)
theorem Zmp (own : List (Nat × Nat)) (id g : Nat) (op : Aop) (vals : List V) : PCo (Zaz (Zaq P (X P)) own id g op vals) (fun n => Zaz (Zaq P (exec P n)) own id g op vals) := by
  by_cases hcall : ∃ m f as, op = .call m f as
  · obtain ⟨m, f, as, rfl⟩ := hcall
    unfold Zaz
    cases vals with
    | nil => exact PCo.no _
    | cons fv args =>
      simp only
      cases m <;> cases fv <;> simp only <;> (try exact PCo.no _)
      · refine Zgk fun as' => ?_
        intro H o ho
        cases hq : Zaq P (X P) false _ as' with
        | none => rw [hq] at ho; simp [runP] at ho
        | some q =>
          obtain ⟨n, hn⟩ := Zje hq
          exact ⟨n, by simp only [hn]; rw [hq] at ho; exact ho⟩
      · refine Zgk fun as' => ?_
        intro H o ho
        cases hq : Zaq P (X P) true _ as' with
        | none => rw [hq] at ho; simp [runP] at ho
        | some q =>
          obtain ⟨n, hn⟩ := Zje hq
          exact ⟨n, by simp only [hn]; rw [hq] at ho; exact ho⟩
  · have : ∀ n, Zaz (Zaq P (exec P n)) own id g op vals = Zaz (Zaq P (X P)) own id g op vals := fun n => by
      cases op
      case call m f as => exact absurd ⟨m, f, as, rfl⟩ hcall
      case mkm r => cases r <;> (rcases vals with _ | ⟨a, _ | ⟨b, l⟩⟩ <;> (try rfl)) <;> (cases a <;> rfl)
      all_goals (rcases vals with _ | ⟨a, _ | ⟨b, _ | ⟨c, _ | ⟨d, _ | ⟨e, l⟩⟩⟩⟩⟩ <;> rfl)
    simp only [this]; exact PCo.refl _
theorem Zmr {r : RS} {base γ : Nat} {e : List V} {H : Heap} {o : List V × Heap × List Nat × List Nat} (h : Zda (Zaq P (X P)) r base γ e H = some o) : ∃ n, Zda (Zaq P (exec P n)) r base γ e H = some o := by
  unfold Zda at h ⊢
  split at h
  · cases h
  · exact ⟨0, h⟩
  · split at h
    · cases h
    · rename_i hr
      simp only [if_neg hr]
      have hp : PCo (Zdc (Zaq P (X P)) r base γ e) (fun n => Zdc (Zaq P (exec P n)) r base γ e) := by
        unfold Zdc
        exact PCo.ite (Zgk fun vals' => Zmp _ _ _ _ _) (Zmp _ _ _ _ _)
      split at h
      · rename_i v H' rs ws hrun
        obtain ⟨n, hn⟩ := hp _ _ hrun
        exact ⟨n, by rw [hn]; exact h⟩
      · cases h
theorem ciX {n m : Nat} (h : n ≤ m) : ∀ b f as r, Zaq P (exec P n) b f as = some r → Zaq P (exec P m) b f as = some r := fun _ _ _ _ hc => Zbo (Zcy h) hc
theorem crX {n m : Nat} (h : n ≤ m) : ∀ f as H γ r, Zek P (exec P n) f as H γ = some r → Zek P (exec P m) f as H γ = some r := fun _ _ _ _ _ hc => Zme (Zcy h) hc
theorem Zqg {base γ : Nat} : ∀ {rs : List RS} {i : Nat} {dep : List (List Nat)} {past : List (Nat × RS × (List Nat × List Nat))} {e : List V} {H : Heap} {o : List V × Heap}, runD (Zaq P (X P)) base γ i dep rs past e H = some o → ∃ n, runD (Zaq P (exec P n)) base γ i dep rs past e H = some o
  | [], _, _, _, _, _, _, h => ⟨0, h⟩
  | r :: rs, i, dep, past, e, H, o, h => by
    unfold runD at h
    split at h
    · rename_i e' H' a b hs
      split at h
      · rename_i ha
        obtain ⟨n1, h1⟩ := Zmr hs
        obtain ⟨n2, h2⟩ := Zqg h
        refine ⟨max n1 n2, ?_⟩
        unfold runD
        rw [Zgt (ciX (Nat.le_max_left n1 n2)) h1]
        simp only [ha, if_true]
        exact Zlf (ciX (Nat.le_max_right n1 n2)) h2
      · cases h
    · cases h
theorem Zgd {base γ : Nat} : ∀ {rs : List RS} {s s' : St}, Zcm (Zaq P (X P)) (Zek P (X P)) base γ rs s = some s' → ∃ n, Zcm (Zaq P (exec P n)) (Zek P (exec P n)) base γ rs s = some s'
  | [], _, _, h => ⟨0, h⟩
  | r :: rs, s, s', h => by
    unfold Zcm at h
    split at h
    · rename_i f args hop
      split at h
      · cases h
      · rename_i hg
        obtain ⟨n, hn⟩ := Zgd h
        refine ⟨n, ?_⟩
        unfold Zcm
        simp only [hop, hg]
        exact hn
      · rename_i hg
        split at h
        · rename_i v H' γ' hcall
          obtain ⟨n1, h1⟩ := Zuv hcall
          obtain ⟨n2, h2⟩ := Zgd h
          refine ⟨max n1 n2, ?_⟩
          unfold Zcm
          simp only [hop, hg, crX (Nat.le_max_left n1 n2) _ _ _ _ _ h1]
          exact Zen (ciX (Nat.le_max_right n1 n2)) (crX (Nat.le_max_right n1 n2)) h2
        · cases h
    · rename_i hno
      split at h
      · rename_i e H' a b hs
        obtain ⟨n1, h1⟩ := Zmr hs
        obtain ⟨n2, h2⟩ := Zgd h
        refine ⟨max n1 n2, ?_⟩
        unfold Zcm
        split
        · rename_i f args hop; exact absurd hop (hno f args)
        · rw [Zgt (ciX (Nat.le_max_left n1 n2)) h1]
          exact Zen (ciX (Nat.le_max_right n1 n2)) (crX (Nat.le_max_right n1 n2)) h2
      · cases h

theorem Zys {c : AC} {s : St} {r : Ex × St} (h : step P (X P) c s = some r) : ∃ n, step P (exec P n) c s = some r := by
  cases c <;> simp only [step] at h ⊢ <;> (try exact ⟨0, h⟩)
  case reg tot ops =>
    split at h
    · rename_i s' hs
      obtain ⟨n, hn⟩ := Zgd hs
      exact ⟨n, by rw [hn]; exact h⟩
    · cases h
  case regd dep tot ops =>
    split at h
    · rename_i e H hs
      obtain ⟨n, hn⟩ := Zqg hs
      exact ⟨n, by rw [hn]; exact h⟩
    · cases h
  case seq a b =>
    cases he : X P a s with
    | none => rw [he] at h; cases h
    | some q =>
      rw [he] at h
      obtain ⟨n1, h1⟩ := X_ex he
      obtain ⟨ex, s1⟩ := q
      cases ex <;> simp only at h
      · obtain ⟨n2, h2⟩ := X_ex h
        exact ⟨max n1 n2, by rw [Zcy (Nat.le_max_left n1 n2) _ _ _ h1]; exact Zcy (Nat.le_max_right n1 n2) _ _ _ h2⟩
      · exact ⟨n1, by rw [h1]; exact h⟩
      · exact ⟨n1, by rw [h1]; exact h⟩
  case cond x a b =>
    split at h
    · obtain ⟨n, hn⟩ := X_ex h; exact ⟨n, hn⟩
    · obtain ⟨n, hn⟩ := X_ex h; exact ⟨n, hn⟩
    · cases h
  case block id c =>
    cases he : X P c s with
    | none => rw [he] at h; cases h
    | some q => rw [he] at h; obtain ⟨n, hn⟩ := X_ex he; exact ⟨n, by rw [hn]; exact h⟩
  case loop keep c => obtain ⟨n, hn⟩ := X_ex h; exact ⟨n, hn⟩
  case inl b c =>
    cases he : X P c (Zpd b s) with
    | none => rw [he] at h; cases h
    | some q =>
      rw [he] at h
      obtain ⟨n1, h1⟩ := X_ex he
      obtain ⟨ex, s1⟩ := q
      cases ex <;> simp only at h
      · obtain ⟨n2, h2⟩ := X_ex h
        exact ⟨max n1 n2, by rw [Zcy (Nat.le_max_left n1 n2) _ _ _ h1]; exact Zcy (Nat.le_max_right n1 n2) _ _ _ h2⟩
      · exact ⟨n1, by rw [h1]; exact h⟩
      · exact ⟨n1, by rw [h1]; exact h⟩
  case rngf keep f ps asg body =>
    split at h
    · split at h
      · rename_i hrd
        split at h
        · rename_i v H2 γ2 hcall
          obtain ⟨n1, h1⟩ := Zmx hcall
          split at h
          · rename_i st pend k1 e1 ps1 a1 b1 hg
            cases st <;> simp only at h <;> (try (cases h; done)) <;> (cases pend with
              | none => exact ⟨n1, by simp only [hrd, if_true, h1, hg]; exact h⟩
              | some c =>
                obtain ⟨n2, h2⟩ := X_ex h
                exact ⟨max n1 n2, by simp only [hrd, if_true, Zjs (Zcy (Nat.le_max_left n1 n2)) h1, hg]; exact Zcy (Nat.le_max_right n1 n2) _ _ _ h2⟩)
          · cases h
        · cases h
      · cases h
    · cases h
/-- **The limit's equation.** -/
theorem X_eq (c : AC) (s : St) : X P c s = step P (X P) c s := by
  cases h : X P c s with
  | none =>
    cases h2 : step P (X P) c s with
    | none => rfl
    | some r =>
      obtain ⟨n, hn⟩ := Zys h2
      have : X P c s = some r := X_of (n := n + 1) hn
      rw [h] at this; cases this
  | some r =>
    obtain ⟨n, hn⟩ := X_ex h
    cases n with
    | zero => simp [exec] at hn
    | succ n => exact (Zot (Zet n) _ _ _ hn).symm
end Go.AM
