/- Equations to step through code. -/
import Derived.Test.YteooegmokbbeoaaGauA
set_option linter.unusedVariables false
namespace Go.AM
variable {P : Zce}

/-! ### Structure -/
def Zxg (k : St → Option (Ex × St)) : Option (Ex × St) → Option (Ex × St)
  | some (.normal, s) => k s
  | r => r
def Zsx (id : Nat) : Option (Ex × St) → Option (Ex × St)
  | some (.exit i, s) => if i = id then some (.normal, s) else some (.exit i, s)
  | r => r
def Ybm (a b : St → Option (Ex × St)) (s : St) : V → Option (Ex × St)
  | .bool true => a s
  | .bool false => b s
  | _ => none
def nrm : Option St → Option (Ex × St)
  | some s => some (.normal, s)
  | none => none
theorem Zpw (k : St → Option (Ex × St)) (s : St) : Zxg k (some (.normal, s)) = k s := rfl
theorem Ztz (k : St → Option (Ex × St)) (i : Nat) (s : St) : Zxg k (some (.exit i, s)) = some (.exit i, s) := rfl
theorem Zwk (k : St → Option (Ex × St)) (s : St) : Zxg k (some (.ret, s)) = some (.ret, s) := rfl
theorem Zng (id : Nat) (s : St) : Zsx id (some (.normal, s)) = some (.normal, s) := rfl
theorem Ztw (id : Nat) (s : St) : Zsx id (some (.ret, s)) = some (.ret, s) := rfl
theorem Zqw (id i : Nat) (s : St) : Zsx id (some (.exit i, s)) = if i = id then some (.normal, s) else some (.exit i, s) := rfl
theorem Ztu (a b : St → Option (Ex × St)) (s : St) : Ybm a b s (.bool true) = a s := rfl
theorem Zrx (a b : St → Option (Ex × St)) (s : St) : Ybm a b s (.bool false) = b s := rfl
theorem Ybj (s : St) : nrm (some s) = some (.normal, s) := rfl

/-- A region's operations over the limit. -/
noncomputable def RunO (P : Zce) (b γ : Nat) (rs : List RS) (s : St) : Option St := Zcm (Zaq P (X P)) (Zek P (X P)) b γ rs s
noncomputable def RunD (P : Zce) (b γ i : Nat) (dep : List (List Nat)) (rs : List RS) (past : List (Nat × RS × (List Nat × List Nat))) (e : List V) (H : Heap) : Option (List V × Heap) := runD (Zaq P (X P)) b γ i dep rs past e H
def endD (γ : Nat) (rd : Option (Nat × Nat)) : Option (List V × Heap) → Option (Ex × St)
  | some (e, H) => some (.normal, ⟨e, H, γ, rd⟩)
  | none => none
theorem Zvu (γ : Nat) (rd : Option (Nat × Nat)) (e : List V) (H : Heap) : endD γ rd (some (e, H)) = some (.normal, ⟨e, H, γ, rd⟩) := rfl
theorem X_skip (s : St) : X P .skip s = some (.normal, s) := by rw [X_eq]; rfl
theorem X_ret (s : St) : X P .ret s = some (.ret, s) := by rw [X_eq]; rfl
theorem X_exit (id : Nat) (s : St) : X P (.exit id) s = some (.exit id, s) := by rw [X_eq]; rfl
theorem X_seq (a b : AC) (s : St) : X P (.seq a b) s = Zxg (X P b) (X P a s) := by
  rw [X_eq]; simp only [step]; cases h : X P a s with
  | none => rfl
  | some r => obtain ⟨ex, s1⟩ := r; cases ex <;> rfl
theorem Yeu (id : Nat) (c : AC) (s : St) : X P (.block id c) s = Zsx id (X P c s) := by
  rw [X_eq]; simp only [step]; cases h : X P c s with
  | none => rfl
  | some r => obtain ⟨ex, s1⟩ := r; cases ex <;> rfl
theorem X_cond (x : Opd) (a b : AC) (e : List V) (H : Heap) (g : Nat) (rd : Option (Nat × Nat)) : X P (.cond x a b) ⟨e, H, g, rd⟩ = Ybm (X P a) (X P b) ⟨e, H, g, rd⟩ (Zbz e x) := by
  rw [X_eq]; simp only [step]; unfold Ybm
  split <;> simp_all
theorem Ydj (c : AC) (s : St) : X P (.loop true c) s = X P (.inl none c) s := by rw [X_eq]; rfl
theorem Yev (c : AC) (s : St) : X P (.loop false c) s = X P (.inl (some s.H.length) c) s := by rw [X_eq]; rfl
theorem Ygf (b : Option Nat) (c : AC) (s : St) : X P (.inl b c) s = Zxg (X P (.inl b c)) (X P c (Zpd b s)) := by
  rw [X_eq]; simp only [step]; cases h : X P c (Zpd b s) with
  | none => rfl
  | some r => obtain ⟨ex, s1⟩ := r; cases ex <;> rfl
theorem X_reg0 (ops : List RS) (e : List V) (H : Heap) (g : Nat) (rd : Option (Nat × Nat)) : X P (.reg 0 ops) ⟨e, H, g, rd⟩ = nrm (RunO P H.length g ops ⟨e, H, g, rd⟩) := by
  rw [X_eq]; simp only [step, List.replicate, List.append_nil, Nat.add_zero]; unfold RunO nrm; split <;> simp_all
theorem X_reg (tot : Nat) (ops : List RS) (e : List V) (H : Heap) (g : Nat) (rd : Option (Nat × Nat)) : X P (.reg tot ops) ⟨e, H, g, rd⟩ = nrm (RunO P H.length g ops ⟨e, H ++ List.replicate tot none, g + tot, rd⟩) := by
  rw [X_eq]; simp only [step]; unfold RunO nrm; split <;> simp_all
theorem X_regd0 (dep : List (List Nat)) (ops : List RS) (e : List V) (H : Heap) (g : Nat) (rd : Option (Nat × Nat)) : X P (.regd dep 0 ops) ⟨e, H, g, rd⟩ = endD g rd (RunD P H.length g 0 dep ops [] e H) := by
  rw [X_eq]; simp only [step, List.replicate, List.append_nil, Nat.add_zero]; unfold RunD endD; split <;> simp_all
theorem X_regd (dep : List (List Nat)) (tot : Nat) (ops : List RS) (e : List V) (H : Heap) (g : Nat) (rd : Option (Nat × Nat)) : X P (.regd dep tot ops) ⟨e, H, g, rd⟩ = endD (g + tot) rd (RunD P H.length g 0 dep ops [] e (H ++ List.replicate tot none)) := by
  rw [X_eq]; simp only [step]; unfold RunD endD; split <;> simp_all

/-! ### The environment -/
theorem Zaa {e : List V} {n : Nat} (v : V) (h : n < e.length) : getE (putE e n v) n = v := by
  induction e generalizing n with
  | nil => simp at h
  | cons a t ih => cases n with
    | zero => rfl
    | succ n => simp only [putE, List.set_cons_succ, getE]; exact ih (by simpa using h)
theorem Zab {e : List V} {n m : Nat} (v : V) (h : n ≠ m) : getE (putE e n v) m = getE e m := by
  induction e generalizing n m with
  | nil => rfl
  | cons a t ih => cases n with
    | zero => cases m with
      | zero => exact absurd rfl h
      | succ m => rfl
    | succ n => cases m with
      | zero => rfl
      | succ m => simp only [putE, List.set_cons_succ, getE]; exact ih (by omega)
theorem Zac (e : List V) (n : Nat) (v : V) : (putE e n v).length = e.length := by simp [putE]
theorem Zgc {nt : Nat} {args : List V} (h : args.length ≤ nt) : (env0 nt args).length = nt := by simp [env0]; omega
theorem Zmc (x : V) (xs : List V) : getE (x :: xs) 0 = x := rfl
theorem Zmv (x : V) (xs : List V) (n : Nat) : getE (x :: xs) (n + 1) = getE xs n := rfl
theorem Zrd {a : List V} (b : List V) {n : Nat} (h : n < a.length) : getE (a ++ b) n = getE a n := by
  induction a generalizing n with
  | nil => simp at h
  | cons x t ih => cases n with
    | zero => rfl
    | succ n => simp only [List.cons_append, getE]; exact ih (by simpa using h)
theorem Zid {nt : Nat} {args : List V} {n : Nat} (h : n < args.length) : getE (env0 nt args) n = getE args n := Zrd _ h
theorem Yff (e : List V) (n : Nat) : Zbz e (.t n) = getE e n := rfl
theorem Ygs (e : List V) (v : V) : Zbz e (.c v) = v := rfl
theorem Zxh (e : List V) (d : Nat) (v : V) : putO e (some d) v = putE e d v := rfl
theorem Zxv (e : List V) (v : V) : putO e none v = e := rfl

/-! ### Operations -/
/-- What an operation makes: its value, the heap, what was read and written. -/
abbrev OpR := Option (V × Heap × List Nat × List Nat)
/-- The operation over its operands. -/
noncomputable def opR (P : Zce) (own : List (Nat × Nat)) (id g : Nat) (op : Aop) (vals : List V) (H : Heap) : OpR := runP (Zaz (Zaq P (X P)) own id g op vals) H
noncomputable def frzR (P : Zce) (own : List (Nat × Nat)) (id g : Nat) (op : Aop) (vals : List V) (H : Heap) : OpR := runP (Zbg true 9 vals fun vals' => Zaz (Zaq P (X P)) own id g op vals') H
noncomputable def Ydo (P : Zce) (b γ : Nat) (d : Option Nat) (rs : List RS) (e : List V) (g : Nat) (rd : Option (Nat × Nat)) : OpR → Option St
  | some (v, H, _, _) => RunO P b γ rs ⟨putO e d v, H, g, rd⟩
  | none => none
noncomputable def contC (P : Zce) (b γ : Nat) (d : Option Nat) (rs : List RS) (e : List V) (rd : Option (Nat × Nat)) : Option (V × Heap × Nat) → Option St
  | some (v, H, g) => RunO P b γ rs ⟨putO e d v, H, g, rd⟩
  | none => none
noncomputable def Zgg (P : Zce) (b γ i : Nat) (dep : List (List Nat)) (r : RS) (rs : List RS) (past : List (Nat × RS × (List Nat × List Nat))) (e : List V) : OpR → Option (List V × Heap)
  | some (v, H, x, y) => if Zcw (dep.headD []) r (x, y) past then RunD P b γ (i + 1) dep.tail rs ((i, r, (x, y)) :: past) (putO e r.dst v) H else none
  | none => none
def ifO (o : Option Bool) (a b : Option St) : Option St := match o with
  | some true => a
  | some false => b
  | none => none
theorem Zul (b γ : Nat) (d : Option Nat) (rs : List RS) (e : List V) (g : Nat) (rd : Option (Nat × Nat)) (v : V) (H : Heap) (x y : List Nat) : Ydo P b γ d rs e g rd (some (v, H, x, y)) = RunO P b γ rs ⟨putO e d v, H, g, rd⟩ := rfl
theorem Zuc (b γ : Nat) (d : Option Nat) (rs : List RS) (e : List V) (rd : Option (Nat × Nat)) (v : V) (H : Heap) (g : Nat) : contC P b γ d rs e rd (some (v, H, g)) = RunO P b γ rs ⟨putO e d v, H, g, rd⟩ := rfl
theorem Ych (b γ : Nat) (s : St) : RunO P b γ [] s = some s := rfl
theorem Ydm (b γ : Nat) (d : Option Nat) (op : Aop) (k : Nat) (own : List (Nat × Nat)) (rs : List RS) (e : List V) (H : Heap) (g : Nat) (rd : Option (Nat × Nat)) (hr : Zho op = false) :
    RunO P b γ (⟨d, op, none, k, false, own⟩ :: rs) ⟨e, H, g, rd⟩ = Ydo P b γ d rs e g rd (opR P own (b + k) (γ + k) op (op.opds.map (Zbz e)) H) := by
  unfold RunO
  rw [Zcm]
  split
  · rename_i h; simp only at h; subst h; simp [Zho] at hr
  · simp only [Zda, Zep, hr, Zdc, opR, Bool.false_eq_true, if_false]
    cases runP (Zaz (Zaq P (X P)) own (b + k) (γ + k) op (op.opds.map (Zbz e))) H with
    | none => rfl
    | some q => rfl
theorem Yaq (b γ : Nat) (d : Option Nat) (op : Aop) (k : Nat) (own : List (Nat × Nat)) (rs : List RS) (e : List V) (H : Heap) (g : Nat) (rd : Option (Nat × Nat)) (hr : Zho op = false) :
    RunO P b γ (⟨d, op, none, k, true, own⟩ :: rs) ⟨e, H, g, rd⟩ = Ydo P b γ d rs e g rd (frzR P own (b + k) (γ + k) op (op.opds.map (Zbz e)) H) := by
  unfold RunO
  rw [Zcm]
  split
  · rename_i h; simp only at h; subst h; simp [Zho] at hr
  · simp only [Zda, Zep, hr, Zdc, frzR, Bool.false_eq_true, if_false, if_true]
    cases runP (Zbg true 9 (op.opds.map (Zbz e)) fun vals' => Zaz (Zaq P (X P)) own (b + k) (γ + k) op vals') H with
    | none => rfl
    | some q => rfl
theorem Zzv (b γ : Nat) (d : Option Nat) (f : Opd) (args : List Opd) (k : Nat) (fz : Bool) (own : List (Nat × Nat)) (rs : List RS) (e : List V) (H : Heap) (g : Nat) (rd : Option (Nat × Nat)) :
    RunO P b γ (⟨d, .call .raw f args, none, k, fz, own⟩ :: rs) ⟨e, H, g, rd⟩ = contC P b γ d rs e rd (Zek P (X P) (Zbz e f) (args.map (Zbz e)) H g) := by
  unfold RunO
  rw [Zcm]
  simp only [Zep]
  cases Zek P (X P) (Zbz e f) (args.map (Zbz e)) H g with
  | none => rfl
  | some q => rfl
noncomputable def ifG (P : Zce) (b γ : Nat) (d : Option Nat) (op : Aop) (k : Nat) (fz : Bool) (own : List (Nat × Nat)) (rs : List RS) (e : List V) (H : Heap) (g : Nat) (rd : Option (Nat × Nat)) : Option Bool → Option St
  | some true => RunO P b γ (⟨d, op, none, k, fz, own⟩ :: rs) ⟨e, H, g, rd⟩
  | some false => RunO P b γ rs ⟨putO e d (.tup []), H, g, rd⟩
  | none => none
theorem Ybv (b γ : Nat) (d : Option Nat) (op : Aop) (t : Nat) (w : Bool) (k : Nat) (fz : Bool) (own : List (Nat × Nat)) (rs : List RS) (e : List V) (H : Heap) (g : Nat) (rd : Option (Nat × Nat)) :
    RunO P b γ (⟨d, op, some (t, w), k, fz, own⟩ :: rs) ⟨e, H, g, rd⟩ = ifG P b γ d op k fz own rs e H g rd (Zep e (some (t, w))) := by
  unfold ifG RunO
  rw [Zcm]
  split
  · rename_i h; simp only at h; subst h
    cases hg : Zep e (some (t, w)) with
    | none => rfl
    | some q => cases q with
      | true => simp only [Zcm, hg, Zep]
      | false => simp only [hg]
  · rename_i h
    simp only [Zda]
    cases hg : Zep e (some (t, w)) with
    | none => rfl
    | some q => cases q with
      | true =>
        simp only
        symm
        rw [Zcm]
        split
        · rename_i h2; exact absurd h2 (h _ _)
        · simp only [Zda, Zep, Zdc]
      | false => simp only
theorem Yau (b γ : Nat) (d : Option Nat) (op : Aop) (k : Nat) (fz : Bool) (own : List (Nat × Nat)) (rs : List RS) (e : List V) (H : Heap) (g : Nat) (rd : Option (Nat × Nat)) : ifG P b γ d op k fz own rs e H g rd (some true) = RunO P b γ (⟨d, op, none, k, fz, own⟩ :: rs) ⟨e, H, g, rd⟩ := rfl
theorem Zwh (b γ : Nat) (d : Option Nat) (op : Aop) (k : Nat) (fz : Bool) (own : List (Nat × Nat)) (rs : List RS) (e : List V) (H : Heap) (g : Nat) (rd : Option (Nat × Nat)) : ifG P b γ d op k fz own rs e H g rd (some false) = RunO P b γ rs ⟨putO e d (.tup []), H, g, rd⟩ := rfl
end Go.AM

set_option linter.unusedVariables false
namespace Go.AM
variable {P : Zce}
/-- The plan writes nothing. -/
def NW (p : Plan) : Prop := ∀ H v H' r w, runP p H = some (v, H', r, w) → w = []
theorem NW.ret (v : V) : NW (.ret v) := fun H v' H' r w h => by simp [runP] at h; exact h.2.2.2
theorem NW.no : NW .no := fun H v' H' r w h => by simp [runP] at h
theorem NW.rd {id g : Nat} {k : O → Plan} (h : ∀ o, NW (k o)) : NW (.rd id g k) := fun H v H' r w hp => by
  simp only [runP] at hp
  split at hp
  · split at hp
    · rename_i hk
      simp only [Option.some.injEq, Prod.mk.injEq] at hp
      obtain ⟨_, _, _, rfl⟩ := hp
      exact h _ _ _ _ _ _ hk
    · cases hp
  · cases hp
theorem NW.ite {c : Prop} [Decidable c] {a b : Plan} (h : NW a) (h' : NW b) : NW (if c then a else b) := by
  by_cases hc : c
  · simp only [if_pos hc]; exact h
  · simp only [if_neg hc]; exact h'
theorem NW.retO (o : Option V) : NW (retO o) := by cases o <;> first | exact NW.no | exact NW.ret _
def NWF (f : V → (V → Plan) → Plan) : Prop := ∀ v k, (∀ v', NW (k v')) → NW (f v k)
theorem Zff {f : V → (V → Plan) → Plan} (hf : NWF f) : ∀ (cs : List V) (k : List V → Plan), (∀ cs', NW (k cs')) → NW (Zby f cs k)
  | [], k, h => h []
  | c :: cs, k, h => hf c _ fun c' => Zff hf cs _ fun cs' => h (c' :: cs')
theorem Zxp {id g sz off len : Nat} {cap : Option Nat} {kd : Kd} {k : V → Plan} (h : ∀ v', NW (k v')) (cs : List V) : NW (frzK false id g sz off len cap kd k cs) := by
  unfold frzK
  cases kd <;> first | exact h _ | (simp only [Bool.false_eq_true, if_false]; exact h _)
theorem Zmh : ∀ d : Nat, NWF (Zav false d)
  | 0 => fun v k h => by unfold Zav; exact NW.ite (h v) NW.no
  | d + 1 => fun v k h => by
    have ih := Zmh d
    unfold Zav
    refine NW.ite (h v) ?_
    cases v <;> simp only <;> (try exact NW.no)
    case sl id g sz off len cap =>
      refine NW.rd fun o => ?_
      cases o <;> simp only <;> (try exact NW.no)
      exact NW.ite (NW.ite (Zxp h _) (Zff ih _ _ fun cs' => Zxp h cs')) NW.no
    case ptr id g off =>
      refine NW.rd fun o => ?_
      cases o <;> simp only <;> (try exact NW.no)
      rename_i cs kd
      cases kd <;> simp only <;> (try exact NW.no)
      all_goals exact Zff ih _ _ fun cs' => h _
    case mp id g =>
      refine NW.rd fun o => ?_
      cases o <;> simp only <;> (try exact NW.no)
      exact NW.ite (Zff ih _ _ fun cs' => h _) NW.no
    case fn f fst caps => exact Zff ih _ _ fun fst' => Zff ih _ _ fun caps' => h _
    case agg cs => exact Zff ih _ _ fun cs' => h _
    case tup cs => exact Zff ih _ _ fun cs' => h _
theorem Ztv {d : Nat} {cs : List V} {k : List V → Plan} (h : ∀ cs', NW (k cs')) : NW (Zbg false d cs k) := by
  unfold Zbg
  exact NW.ite (h cs) (Zff (Zmh d) _ _ h)

/-- An operation that writes nothing. -/
def Zsv : Aop → Bool
  | .mv _ | .pick .. | .build .. | .ld .. | .nchk _ | .bin .. | .eqb .. | .eqn .. | .un .. | .conv .. | .mkf .. | .slc .. | .fad .. | .fld .. | .iad .. | .iap .. | .idx .. | .ext .. | .len .. | .alen _ | .cap _ | .mx .. | .mn .. | .six .. | .call .iso _ _ => true
  | _ => false
theorem Ygp (ng : Bool) (nk : Nat) (x y : V) : NW (eqnP ng nk x y) := by
  unfold eqnP
  split <;> first
    | exact NW.ret _
    | exact NW.no
    | (refine NW.rd fun o => ?_; split <;> first | exact NW.ret _ | exact NW.no)
theorem Ygq (m : Nat) (x : V) : NW (lenP m x) := by
  unfold lenP
  split <;> first
    | exact NW.ite (NW.ret _) NW.no
    | exact NW.no
    | (refine NW.ite (NW.rd fun o => ?_) NW.no; split <;> first | exact NW.ret _ | exact NW.no)
theorem Yge (op : BinOp) (x y : V) : NW (binP op x y) := by
  unfold binP
  split <;> first | exact NW.retO _ | exact NW.no | exact NW.ite (NW.retO _) NW.no
theorem Zvi (ci : Bool → Nat → List V → Option (V × Option (List V × Kd))) {op : Aop} (h : Zsv op = true) (id g : Nat) (vals : List V) : NW (Zaz ci [] id g op vals) := by
  cases op <;> simp only [Zsv, Bool.false_eq_true] at h <;> (try (cases h; done))
  case call m f as =>
    cases m <;> simp only [Zsv, Bool.false_eq_true] at h
    unfold Zaz
    cases vals with
    | nil => exact NW.no
    | cons fv args =>
      cases fv <;> simp only <;> (try exact NW.no)
      refine Ztv fun as' => ?_
      split
      · exact NW.ite (NW.ret _) NW.no
      · exact NW.no
  case mv x => rcases vals with _ | ⟨a, _ | ⟨b, l⟩⟩ <;> first | exact NW.no | exact NW.ret _
  case pick x y z => rcases vals with _ | ⟨a, _ | ⟨b, _ | ⟨c, _ | ⟨d, l⟩⟩⟩⟩ <;> first | exact NW.no | (cases a <;> first | exact NW.ret _ | exact NW.no)
  case build z ps =>
    unfold Zaz; simp only
    split
    · split
      · exact NW.ret _
      · exact NW.no
    · exact NW.no
  case ld n ag x =>
    rcases vals with _ | ⟨a, _ | ⟨b, l⟩⟩ <;> (try exact NW.no)
    cases a <;> (try exact NW.no)
    · refine NW.rd fun o => ?_
      cases o <;> first | exact NW.no | exact NW.ite (NW.retO _) NW.no
    · exact NW.ite (NW.retO _) NW.no
  case nchk x => rcases vals with _ | ⟨a, _ | ⟨b, l⟩⟩ <;> (try exact NW.no); cases a <;> first | exact NW.ret _ | exact NW.no
  case bin op x y => rcases vals with _ | ⟨a, _ | ⟨b, _ | ⟨c, l⟩⟩⟩ <;> first | exact NW.no | exact Yge _ _ _
  case eqb ng ag ks x y =>
    rcases vals with _ | ⟨a, _ | ⟨b, _ | ⟨c, l⟩⟩⟩ <;> (try exact NW.no)
    unfold Zaz; simp only; split
    · exact NW.ret _
    · exact NW.no
  case eqn ng nk x y => rcases vals with _ | ⟨a, _ | ⟨b, _ | ⟨c, l⟩⟩⟩ <;> first | exact NW.no | exact Ygp _ _ _ _
  case un op x => rcases vals with _ | ⟨a, _ | ⟨b, l⟩⟩ <;> first | exact NW.no | exact NW.retO _
  case conv k x => rcases vals with _ | ⟨a, _ | ⟨b, l⟩⟩ <;> (try exact NW.no); cases a <;> first | exact NW.ret _ | exact NW.no
  case mkf f fst caps => exact NW.ret _
  case slc sz x lo hi mx =>
    cases vals with
    | nil => cases lo <;> cases hi <;> cases mx <;> exact NW.no
    | cons a vs => cases lo <;> cases hi <;> cases mx <;> (rcases vs with _ | ⟨b, _ | ⟨c, _ | ⟨d, _ | ⟨e, l⟩⟩⟩⟩ <;> first | exact NW.no | exact NW.retO _)
  case fad n x => rcases vals with _ | ⟨a, _ | ⟨b, l⟩⟩ <;> (try exact NW.no); cases a <;> first | exact NW.ret _ | exact NW.no
  case fld off n ag x => rcases vals with _ | ⟨a, _ | ⟨b, l⟩⟩ <;> (try exact NW.no); cases a <;> first | exact NW.ite (NW.retO _) NW.no | exact NW.no
  case iad sz x i => rcases vals with _ | ⟨a, _ | ⟨b, _ | ⟨c, l⟩⟩⟩ <;> (try exact NW.no); cases a <;> (try exact NW.no) <;> (cases b <;> first | exact NW.ite (NW.ret _) NW.no | exact NW.no)
  case iap sz len x i => rcases vals with _ | ⟨a, _ | ⟨b, _ | ⟨c, l⟩⟩⟩ <;> (try exact NW.no); cases a <;> (try exact NW.no) <;> (cases b <;> first | exact NW.ite (NW.ret _) NW.no | exact NW.no)
  case idx sz len ag x i => rcases vals with _ | ⟨a, _ | ⟨b, _ | ⟨c, l⟩⟩⟩ <;> (try exact NW.no); cases a <;> (try exact NW.no) <;> (cases b <;> first | exact NW.ite (NW.retO _) NW.no | exact NW.no)
  case ext x i =>
    rcases vals with _ | ⟨a, _ | ⟨b, l⟩⟩ <;> (try exact NW.no)
    cases a <;> (try exact NW.no)
    unfold Zaz; simp only; split
    · exact NW.ret _
    · exact NW.no
  case len m x => rcases vals with _ | ⟨a, _ | ⟨b, l⟩⟩ <;> first | exact NW.no | exact Ygq _ _
  case alen n => cases vals <;> first | exact NW.ret _ | exact NW.no
  case cap x => rcases vals with _ | ⟨a, _ | ⟨b, l⟩⟩ <;> first | exact NW.no | exact NW.retO _
  case mx x y => rcases vals with _ | ⟨a, _ | ⟨b, _ | ⟨c, l⟩⟩⟩ <;> (try exact NW.no); cases a <;> (try exact NW.no) <;> (cases b <;> first | exact NW.ret _ | exact NW.no)
  case mn x y => rcases vals with _ | ⟨a, _ | ⟨b, _ | ⟨c, l⟩⟩⟩ <;> (try exact NW.no); cases a <;> (try exact NW.no) <;> (cases b <;> first | exact NW.ret _ | exact NW.no)
  case six x i =>
    rcases vals with _ | ⟨a, _ | ⟨b, _ | ⟨c, l⟩⟩⟩ <;> (try exact NW.no)
    cases a <;> (try exact NW.no)
    cases b <;> (try exact NW.no)
    unfold Zaz; simp only; split
    · exact NW.ret _
    · exact NW.no

/-- The plan looks at nothing and writes nothing. -/
def NS (p : Plan) : Prop := ∀ H v H' r w, runP p H = some (v, H', r, w) → r = [] ∧ w = []
theorem NS.ret (v : V) : NS (.ret v) := fun H v' H' r w h => by simp [runP] at h; exact ⟨h.2.2.1, h.2.2.2⟩
theorem NS.no : NS .no := fun H v' H' r w h => by simp [runP] at h
theorem NS.ite {c : Prop} [Decidable c] {a b : Plan} (h : NS a) (h' : NS b) : NS (if c then a else b) := by
  by_cases hc : c
  · simp only [if_pos hc]; exact h
  · simp only [if_neg hc]; exact h'
theorem NS.retO (o : Option V) : NS (retO o) := by cases o <;> first | exact NS.no | exact NS.ret _
theorem Yfk (op : BinOp) (x y : V) : NS (binP op x y) := by
  unfold binP
  split <;> first | exact NS.retO _ | exact NS.no | exact NS.ite (NS.retO _) NS.no
def hush : Aop → Bool
  | .mv _ | .pick .. | .build .. | .nchk _ | .bin .. | .eqb .. | .un .. | .conv .. | .mkf .. | .slc .. | .fad .. | .fld .. | .iad .. | .iap .. | .idx .. | .ext .. | .alen _ | .cap _ | .mx .. | .mn .. | .six .. => true
  | _ => false
theorem Yey (ci : Bool → Nat → List V → Option (V × Option (List V × Kd))) {op : Aop} (h : hush op = true) (id g : Nat) (vals : List V) : NS (Zaz ci [] id g op vals) := by
  cases op <;> simp only [hush, Bool.false_eq_true] at h <;> (try (cases h; done))
  case mv x => rcases vals with _ | ⟨a, _ | ⟨b, l⟩⟩ <;> first | exact NS.no | exact NS.ret _
  case pick x y z => rcases vals with _ | ⟨a, _ | ⟨b, _ | ⟨c, _ | ⟨d, l⟩⟩⟩⟩ <;> first | exact NS.no | (cases a <;> first | exact NS.ret _ | exact NS.no)
  case build z ps =>
    unfold Zaz; simp only
    split
    · split
      · exact NS.ret _
      · exact NS.no
    · exact NS.no
  case nchk x => rcases vals with _ | ⟨a, _ | ⟨b, l⟩⟩ <;> (try exact NS.no); cases a <;> first | exact NS.ret _ | exact NS.no
  case bin op x y => rcases vals with _ | ⟨a, _ | ⟨b, _ | ⟨c, l⟩⟩⟩ <;> first | exact NS.no | exact Yfk _ _ _
  case eqb ng ag ks x y =>
    rcases vals with _ | ⟨a, _ | ⟨b, _ | ⟨c, l⟩⟩⟩ <;> (try exact NS.no)
    unfold Zaz; simp only; split
    · exact NS.ret _
    · exact NS.no
  case un op x => rcases vals with _ | ⟨a, _ | ⟨b, l⟩⟩ <;> first | exact NS.no | exact NS.retO _
  case conv k x => rcases vals with _ | ⟨a, _ | ⟨b, l⟩⟩ <;> (try exact NS.no); cases a <;> first | exact NS.ret _ | exact NS.no
  case mkf f fst caps => exact NS.ret _
  case slc sz x lo hi mx =>
    cases vals with
    | nil => cases lo <;> cases hi <;> cases mx <;> exact NS.no
    | cons a vs => cases lo <;> cases hi <;> cases mx <;> (rcases vs with _ | ⟨b, _ | ⟨c, _ | ⟨d, _ | ⟨e, l⟩⟩⟩⟩ <;> first | exact NS.no | exact NS.retO _)
  case fad n x => rcases vals with _ | ⟨a, _ | ⟨b, l⟩⟩ <;> (try exact NS.no); cases a <;> first | exact NS.ret _ | exact NS.no
  case fld off n ag x => rcases vals with _ | ⟨a, _ | ⟨b, l⟩⟩ <;> (try exact NS.no); cases a <;> first | exact NS.ite (NS.retO _) NS.no | exact NS.no
  case iad sz x i => rcases vals with _ | ⟨a, _ | ⟨b, _ | ⟨c, l⟩⟩⟩ <;> (try exact NS.no); cases a <;> (try exact NS.no) <;> (cases b <;> first | exact NS.ite (NS.ret _) NS.no | exact NS.no)
  case iap sz len x i => rcases vals with _ | ⟨a, _ | ⟨b, _ | ⟨c, l⟩⟩⟩ <;> (try exact NS.no); cases a <;> (try exact NS.no) <;> (cases b <;> first | exact NS.ite (NS.ret _) NS.no | exact NS.no)
  case idx sz len ag x i => rcases vals with _ | ⟨a, _ | ⟨b, _ | ⟨c, l⟩⟩⟩ <;> (try exact NS.no); cases a <;> (try exact NS.no) <;> (cases b <;> first | exact NS.ite (NS.retO _) NS.no | exact NS.no)
  case ext x i =>
    rcases vals with _ | ⟨a, _ | ⟨b, l⟩⟩ <;> (try exact NS.no)
    cases a <;> (try exact NS.no)
    unfold Zaz; simp only; split
    · exact NS.ret _
    · exact NS.no
  case alen n => cases vals <;> first | exact NS.ret _ | exact NS.no
  case cap x => rcases vals with _ | ⟨a, _ | ⟨b, l⟩⟩ <;> first | exact NS.no | exact NS.retO _
  case mx x y => rcases vals with _ | ⟨a, _ | ⟨b, _ | ⟨c, l⟩⟩⟩ <;> (try exact NS.no); cases a <;> (try exact NS.no) <;> (cases b <;> first | exact NS.ret _ | exact NS.no)
  case mn x y => rcases vals with _ | ⟨a, _ | ⟨b, _ | ⟨c, l⟩⟩⟩ <;> (try exact NS.no); cases a <;> (try exact NS.no) <;> (cases b <;> first | exact NS.ret _ | exact NS.no)
  case six x i =>
    rcases vals with _ | ⟨a, _ | ⟨b, _ | ⟨c, l⟩⟩⟩ <;> (try exact NS.no)
    cases a <;> (try exact NS.no)
    cases b <;> (try exact NS.no)
    unfold Zaz; simp only; split
    · exact NS.ret _
    · exact NS.no


def mute (r : RS) : Bool := hush r.op && !r.frz && r.own.isEmpty
theorem Yhg (ci : Bool → Nat → List V → Option (V × Option (List V × Kd))) {r : RS} (h : mute r = true) {base γ : Nat} {e e' : List V} {H H' : Heap} {x y : List Nat} (hs : Zda ci r base γ e H = some (e', H', x, y)) : x = [] ∧ y = [] := by
  simp only [mute, Bool.and_eq_true, Bool.not_eq_true', List.isEmpty_iff] at h
  obtain ⟨⟨h1, h2⟩, h3⟩ := h
  unfold Zda at hs
  split at hs
  · cases hs
  · simp only [Option.some.injEq, Prod.mk.injEq] at hs; exact ⟨hs.2.2.1.symm, hs.2.2.2.symm⟩
  · split at hs
    · cases hs
    · split at hs
      · rename_i v H1 rs ws hr
        simp only [Option.some.injEq, Prod.mk.injEq] at hs
        obtain ⟨_, _, rfl, rfl⟩ := hs
        simp only [Zdc, h2, h3, Bool.false_eq_true, if_false] at hr
        exact Yey ci h1 _ _ _ _ _ _ _ _ hr
      · cases hs
def Zvj (r : RS) : Bool := Zsv r.op && !r.frz && r.own.isEmpty
theorem Yax (ci : Bool → Nat → List V → Option (V × Option (List V × Kd))) {r : RS} (h : Zvj r = true) {base γ : Nat} {e e' : List V} {H H' : Heap} {x y : List Nat} (hs : Zda ci r base γ e H = some (e', H', x, y)) : y = [] := by
  simp only [Zvj, Bool.and_eq_true, Bool.not_eq_true', List.isEmpty_iff] at h
  obtain ⟨⟨h1, h2⟩, h3⟩ := h
  unfold Zda at hs
  split at hs
  · cases hs
  · simp only [Option.some.injEq, Prod.mk.injEq] at hs; exact hs.2.2.2.symm
  · split at hs
    · cases hs
    · split at hs
      · rename_i v H1 rs ws hr
        simp only [Option.some.injEq, Prod.mk.injEq] at hs
        obtain ⟨_, _, _, rfl⟩ := hs
        simp only [Zdc, h2, h3, Bool.false_eq_true, if_false] at hr
        exact Zvi ci h1 _ _ _ _ _ _ _ _ hr
      · cases hs
/-- Every two operations of a region depend on each other, or write nothing and don't see each other's results. -/
def Yav (dep : List Nat) (r : RS) : List (Nat × RS) → Bool
  | [] => true
  | (j, rj) :: l => (dep.contains j || (Zim rj r && (Zvj rj && Zvj r || mute rj || mute r))) && Yav dep r l
def Zwv : Nat → List (List Nat) → List RS → List (Nat × RS) → Bool
  | _, _, [], _ => true
  | i, dep, r :: rs, past => !(Zho r.op) && Yav (dep.headD []) r past && Zwv (i + 1) dep.tail rs ((i, r) :: past)
def Zym (r : RS) (log : List Nat × List Nat) : Prop := (Zvj r = true → log.2 = []) ∧ (mute r = true → log.1 = [] ∧ log.2 = [])
theorem Zja {dep : List Nat} {r : RS} {log : List Nat × List Nat} (hl : Zym r log) : ∀ {past : List (Nat × RS × (List Nat × List Nat))}, (∀ x ∈ past, Zym x.2.1 x.2.2) → Yav dep r (past.map fun x => (x.1, x.2.1)) = true → Zcw dep r log past = true
  | [], _, _ => rfl
  | (j, rj, lj) :: l, hp, h => by
    simp only [List.map_cons, Yav, Bool.and_eq_true, Bool.or_eq_true] at h
    obtain ⟨h1, h2⟩ := h
    simp only [Zcw, Bool.and_eq_true, Bool.or_eq_true]
    refine ⟨h1.imp id fun h => ⟨h.1, ?_⟩, Zja hl (fun x hx => hp x (List.mem_cons_of_mem _ hx)) h2⟩
    have hj : Zym rj lj := hp (j, rj, lj) List.mem_cons_self
    obtain ⟨l1, l2⟩ := lj
    obtain ⟨m1, m2⟩ := log
    rcases h.2 with (h3 | h3) | h3
    · have e1 : l2 = [] := hj.1 h3.1
      have e2 : m2 = [] := hl.1 h3.2
      subst e1; subst e2; simp [Zkd, disj]
    · have e1 : l1 = [] ∧ l2 = [] := hj.2 h3
      obtain ⟨rfl, rfl⟩ := e1; simp [Zkd, disj]
    · have e1 : m1 = [] ∧ m2 = [] := hl.2 h3
      obtain ⟨rfl, rfl⟩ := e1; simp [Zkd, disj]
theorem Zpg {base γ : Nat} {rd : Option (Nat × Nat)} {g : Nat} {ci : Bool → Nat → List V → Option (V × Option (List V × Kd))} {cr : CO} : ∀ {rs : List RS} {i : Nat} {dep : List (List Nat)} {past : List (Nat × RS × (List Nat × List Nat))} {e : List V} {H : Heap}, (∀ x ∈ past, Zym x.2.1 x.2.2) → Zwv i dep rs (past.map fun x => (x.1, x.2.1)) = true →
    (runD ci base γ i dep rs past e H).map (fun q => St.mk q.1 q.2 g rd) = Zcm ci cr base γ rs ⟨e, H, g, rd⟩
  | [], _, _, _, _, _, _, _ => rfl
  | r :: rs, i, dep, past, e, H, hp, h => by
    simp only [Zwv, Bool.and_eq_true, Bool.not_eq_true'] at h
    obtain ⟨⟨h0, h1⟩, h2⟩ := h
    unfold runD
    symm
    rw [Zcm]
    split
    · rename_i hop; rw [hop] at h0; simp [Zho] at h0
    · cases hs : Zda ci r base γ e H with
      | none => rfl
      | some q =>
        obtain ⟨e', H', x, y⟩ := q
        have hq : Zym r (x, y) := ⟨fun hr => Yax ci hr hs, fun hr => Yhg ci hr hs⟩
        simp only [Zja (log := (x, y)) hq hp h1, if_true]
        symm
        refine Zpg ?_ h2
        intro z hz
        rcases List.mem_cons.mp hz with rfl | hz
        · exact hq
        · exact hp z hz
/-- A region whose order is open, in the order of its text. -/
theorem X_stat {dep : List (List Nat)} {tot : Nat} {ops : List RS} (h : Zwv 0 dep ops [] = true) (s : St) : X P (.regd dep tot ops) s = X P (.reg tot ops) s := by
  rw [X_eq, X_eq]
  simp only [step]
  have := Zpg (ci := Zaq P (X P)) (cr := Zek P (X P)) (rd := s.rd) (g := s.γ + tot) (base := s.H.length) (γ := s.γ) (rs := ops) (i := 0) (dep := dep) (past := []) (e := s.env) (H := s.H ++ List.replicate tot none) (fun _ hx => by cases hx) h
  rw [← this]
  cases runD (Zaq P (X P)) s.H.length s.γ 0 dep ops [] s.env (s.H ++ List.replicate tot none) with
  | none => rfl
  | some q => rfl
end Go.AM

set_option linter.unusedVariables false
namespace Go.AM
variable {P : Zce} {own : List (Nat × Nat)} {id g : Nat} {H : Heap}

def retR (H : Heap) : Option V → OpR
  | some v => some (v, H, [], [])
  | none => none
theorem Zvv (H : Heap) (v : V) : retR H (some v) = some (v, H, [], []) := rfl
theorem Zct (o : Option V) (H : Heap) : runP (retO o) H = retR H o := by cases o <;> rfl

theorem o_mv (x : Opd) (v : V) : opR P [] id g (.mv x) [v] H = some (v, H, [], []) := rfl
theorem o_pick (x y z : Opd) (t : Bool) (a b : V) : opR P own id g (.pick x y z) [.bool t, a, b] H = some (if t then a else b, H, [], []) := rfl
theorem o_fad (off : Nat) (x : Opd) (i gi o : Nat) : opR P own id g (.fad off x) [.ptr i gi o] H = some (.ptr i gi (o + off), H, [], []) := rfl
theorem o_fadF (off : Nat) (x : Opd) (cs : List V) (o : Nat) : opR P own id g (.fad off x) [.pf cs o] H = some (.pf cs (o + off), H, [], []) := rfl
theorem Ygh (x : Opd) (i gi o : Nat) : opR P own id g (.nchk x) [.ptr i gi o] H = some (.ptr i gi o, H, [], []) := rfl
theorem Ygb (x : Opd) (cs : List V) (o : Nat) : opR P own id g (.nchk x) [.pf cs o] H = some (.pf cs o, H, [], []) := rfl
theorem Yeo (x : Opd) (f : Nat) (a b : List V) : opR P own id g (.nchk x) [.fn f a b] H = some (.fn f a b, H, [], []) := rfl
theorem o_ext (x : Opd) (i : Nat) (vs : List V) : opR P own id g (.ext x i) [.tup vs] H = retR H vs[i]? := by
  show runP (match vs[i]? with | some v => .ret v | none => .no) H = _
  cases vs[i]? <;> rfl
theorem o_conv (k k' : IntKind) (x : Opd) (n : Int) : opR P own id g (.conv k x) [.int k' n] H = some (.int k (k.wrap n), H, [], []) := rfl
theorem o_un (op : UnOp) (x : Opd) (v : V) : opR P own id g (.un op x) [v] H = retR H (unV op v) := Zct _ _
theorem Yhm (b : Bool) : unV .not (.bool b) = some (.bool !b) := rfl
theorem Yfx (k : IntKind) (n : Int) : unV .neg (.int k n) = some (.int k (k.wrap (0 - n))) := rfl
theorem o_add (x y : Opd) (k : IntKind) (a b : Int) : opR P own id g (.bin .add x y) [.int k a, .int k b] H = some (.int k (k.wrap (a + b)), H, [], []) := by simp [opR, Zaz, binP, binI, retO, runP]
theorem o_sub (x y : Opd) (k : IntKind) (a b : Int) : opR P own id g (.bin .sub x y) [.int k a, .int k b] H = some (.int k (k.wrap (a - b)), H, [], []) := by simp [opR, Zaz, binP, binI, retO, runP]
theorem o_mul (x y : Opd) (k : IntKind) (a b : Int) : opR P own id g (.bin .mul x y) [.int k a, .int k b] H = some (.int k (k.wrap (a * b)), H, [], []) := by simp [opR, Zaz, binP, binI, retO, runP]
theorem o_quo (x y : Opd) (k : IntKind) (a b : Int) (h : b ≠ 0) : opR P own id g (.bin .quo x y) [.int k a, .int k b] H = some (.int k (k.wrap (a.tdiv b)), H, [], []) := by simp [opR, Zaz, binP, binI, retO, runP, h]
theorem o_rem (x y : Opd) (k : IntKind) (a b : Int) (h : b ≠ 0) : opR P own id g (.bin .rem x y) [.int k a, .int k b] H = some (.int k (a.tmod b), H, [], []) := by simp [opR, Zaz, binP, binI, retO, runP, h]
theorem o_eql (x y : Opd) (k : IntKind) (a b : Int) : opR P own id g (.bin .eql x y) [.int k a, .int k b] H = some (.bool (decide (a = b)), H, [], []) := by
  simp [opR, Zaz, binP, binI, retO, runP, BEq.beq]
theorem o_neq (x y : Opd) (k : IntKind) (a b : Int) : opR P own id g (.bin .neq x y) [.int k a, .int k b] H = some (.bool (!decide (a = b)), H, [], []) := by
  simp [opR, Zaz, binP, binI, retO, runP, bne, BEq.beq]
theorem o_lss (x y : Opd) (k : IntKind) (a b : Int) : opR P own id g (.bin .lss x y) [.int k a, .int k b] H = some (.bool (decide (a < b)), H, [], []) := by simp [opR, Zaz, binP, binI, retO, runP]
theorem o_leq (x y : Opd) (k : IntKind) (a b : Int) : opR P own id g (.bin .leq x y) [.int k a, .int k b] H = some (.bool (decide (a ≤ b)), H, [], []) := by simp [opR, Zaz, binP, binI, retO, runP]
theorem o_gtr (x y : Opd) (k : IntKind) (a b : Int) : opR P own id g (.bin .gtr x y) [.int k a, .int k b] H = some (.bool (decide (b < a)), H, [], []) := by simp [opR, Zaz, binP, binI, retO, runP]
theorem o_geq (x y : Opd) (k : IntKind) (a b : Int) : opR P own id g (.bin .geq x y) [.int k a, .int k b] H = some (.bool (decide (b ≤ a)), H, [], []) := by simp [opR, Zaz, binP, binI, retO, runP]
theorem o_eqb (ng ag : Bool) (ks : List SK) (x y : Opd) (a b : V) : opR P own id g (.eqb ng ag ks x y) [a, b] H = retR H ((eqK ag ks a b).map (Zgf ng)) := by
  show runP (match eqK ag ks a b with | some b => .ret (Zgf ng b) | none => .no) H = _
  cases eqK ag ks a b <;> rfl
theorem Ybk (a b : Bool) : eqK false [.b] (.bool a) (.bool b) = some (a == b) := rfl
theorem eqK_ii (k k1 : IntKind) (a b c d : Int) : eqK true [.i, .i] (.agg [.int k a, .int k1 b]) (.agg [.int k c, .int k1 d]) = some (decide (a = c ∧ b = d)) := by
  simp only [eqK, eqL, eqS, List.length, and_self, if_true]
  by_cases h : a = c
  · by_cases h2 : b = d <;> simp [h, h2]
  · have : (a == c) = false := by simpa using h
    simp [this, h]
theorem o_mx (x y : Opd) (k k' : IntKind) (a b : Int) : opR P own id g (.mx x y) [.int k a, .int k' b] H = some (.int k (if b > a then b else a), H, [], []) := rfl
theorem o_mn (x y : Opd) (k k' : IntKind) (a b : Int) : opR P own id g (.mn x y) [.int k a, .int k' b] H = some (.int k (if b < a then b else a), H, [], []) := rfl
theorem o_alen (n : Int) : opR P own id g (.alen n) [] H = some (.int .i64 n, H, [], []) := rfl
theorem o_cap (x : Opd) (v : V) : opR P own id g (.cap x) [v] H = retR H (capV v) := Zct _ _
theorem o_mkf (f : Nat) (fs cs : List Opd) (vals : List V) : opR P own id g (.mkf f fs cs) vals H = some (.fn f (vals.take fs.length) (vals.drop fs.length), H, [], []) := rfl
/-- A value out of parts. -/
def bld (z : List V) (ps : List (Nat × Nat × Opd)) (vals : List V) : Option V :=
  match Zez vals ps with
  | some l => (Zjh z l).map .agg
  | none => none
theorem Yfy (z : List V) (ps : List (Nat × Nat × Opd)) (vals : List V) : opR P own id g (.build z ps) vals H = retR H (bld z ps vals) := by
  unfold opR Zaz bld
  simp only
  cases Zez vals ps with
  | none => rfl
  | some l => simp only; cases Zjh z l <;> rfl
theorem o_slc (sz : Nat) (x : Opd) (v : V) : opR P own id g (.slc sz x none none none) [v] H = retR H (slcV sz v none none none) := Zct _ _
theorem o_slcL (sz : Nat) (x l : Opd) (v a : V) : opR P own id g (.slc sz x (some l) none none) [v, a] H = retR H (slcV sz v (some a) none none) := Zct _ _
theorem o_slcH (sz : Nat) (x l : Opd) (v a : V) : opR P own id g (.slc sz x none (some l) none) [v, a] H = retR H (slcV sz v none (some a) none) := Zct _ _
theorem Yha (sz : Nat) (x l h : Opd) (v a b : V) : opR P own id g (.slc sz x (some l) (some h) none) [v, a, b] H = retR H (slcV sz v (some a) (some b) none) := Zct _ _
theorem Ygg (sz : Nat) (x h m : Opd) (v a b : V) : opR P own id g (.slc sz x none (some h) (some m)) [v, a, b] H = retR H (slcV sz v none (some a) (some b)) := Zct _ _
theorem Ycb (sz : Nat) (x l h m : Opd) (v a b c : V) : opR P own id g (.slc sz x (some l) (some h) (some m)) [v, a, b, c] H = retR H (slcV sz v (some a) (some b) (some c)) := Zct _ _

/-! ### The heap -/
theorem Zeb (g' g : Nat) (o : O) (H : Heap) : getH (some (g', o) :: H) 0 g = if g' = g then some o else none := (rfl)
theorem Zei (x : Option (Nat × O)) (H : Heap) (n g : Nat) : getH (x :: H) (n + 1) g = getH H n g := (rfl)
theorem Zas {H : Heap} {n g : Nat} (o : O) (h : n < H.length) : getH (H.set n (some (g, o))) n g = some o := by
  simp [getH, h]
theorem Zal {H : Heap} {n m g : Nat} (x : Option (Nat × O)) (h : n ≠ m) : getH (H.set n x) m g = getH H m g := by
  simp [getH, List.getElem?_set_ne h]
theorem Zar {H : Heap} {n g : Nat} (K : Heap) (h : n < H.length) : getH (H ++ K) n g = getH H n g := by
  simp [getH, List.getElem?_append_left h]
def ldC (n : Nat) (ag : Bool) (off : Nat) (cs : List V) : Option V := if off + n ≤ cs.length then mkV ag (cut cs off n) else none
def ldR (n : Nat) (ag : Bool) (off i : Nat) (H : Heap) : Option O → OpR
  | some (.cells cs _) => match ldC n ag off cs with
    | some v => some (v, H, [i], [])
    | none => none
  | _ => none
theorem o_fld (off n : Nat) (ag : Bool) (x : Opd) (cs : List V) : opR P own id g (.fld off n ag x) [.agg cs] H = retR H (ldC n ag off cs) := by
  show runP (if off + n ≤ cs.length then retO (mkV ag (cut cs off n)) else .no) H = _
  unfold ldC; split
  · exact Zct _ _
  · rfl
theorem o_ldF (n : Nat) (ag : Bool) (x : Opd) (cs : List V) (off : Nat) : opR P own id g (.ld n ag x) [.pf cs off] H = retR H (ldC n ag off cs) := by
  show runP (if off + n ≤ cs.length then retO (mkV ag (cut cs off n)) else .no) H = _
  unfold ldC; split
  · exact Zct _ _
  · rfl
theorem o_ldP (n : Nat) (ag : Bool) (x : Opd) (i gi off : Nat) : opR P own id g (.ld n ag x) [.ptr i gi off] H = ldR n ag off i H (getH H i gi) := by
  show runP (.rd i gi fun o => match o with | .cells cs _ => if off + n ≤ cs.length then retO (mkV ag (cut cs off n)) else .no | _ => .no) H = _
  simp only [runP]
  cases getH H i gi with
  | none => rfl
  | some o =>
    cases o <;> simp only [ldR, ldC] <;> (try rfl)
    rename_i cs kd
    by_cases h : off + n ≤ cs.length
    · simp only [h, if_true, Zct]; cases mkV ag _ <;> rfl
    · simp only [h, if_false, runP]
theorem Zvz (n : Nat) (ag : Bool) (off i : Nat) (H : Heap) (cs : List V) (kd : Kd) : ldR n ag off i H (some (.cells cs kd)) = (ldC n ag off cs).map fun v => (v, H, [i], []) := by
  simp only [ldR]; cases ldC n ag off cs <;> rfl
theorem o_box (x : Opd) (v : V) (h : Zcc v = true) (hl : id < H.length) : opR P own id g (.box x) [v] H = some (.ptr id g 0, H.set id (some (g, .cells (Zbj v) .fixed)), [], [id]) := by
  show runP (if Zcc v then _ else _) H = _
  simp only [h, if_true, runP, if_pos hl]
theorem Yds (z : List V) (hl : id < H.length) : opR P [] id g (.alloc z) [] H = some (.ptr id g 0, H.set id (some (g, .cells z .fixed)), [], [id]) := by
  show runP (.wr id _ (.ret _)) H = _
  simp only [runP, if_pos hl]
def Zcs : Kd → Bool
  | .fixed | .loose => true
  | _ => false
def stR (n off i gi : Nat) (xs : List V) (H : Heap) : Option O → OpR
  | some (.cells cs kd) => if Zcs kd ∧ off + n ≤ cs.length ∧ i < H.length then some (.junk, H.set i (some (gi, .cells (Zbf cs off xs) kd)), [i], [i]) else none
  | _ => none
theorem o_st (n : Nat) (a x : Opd) (i gi off : Nat) (v : V) (h : Zcc v = true) (hn : (Zbj v).length = n) : opR P [] id g (.st n a x) [.ptr i gi off, v] H = stR n off i gi (Zbj v) H (getH H i gi) := by
  unfold opR Zaz
  simp only [h, hn, and_self, if_true, ownL, runP]
  cases getH H i gi with
  | none => rfl
  | some o => cases o <;> simp only [stR] <;> (try rfl)
              rename_i cs kd
              cases kd <;> simp only [Zcs, runP, Bool.false_eq_true, false_and, if_false, true_and] <;> (
                by_cases h1 : off + n ≤ cs.length <;> by_cases h2 : i < H.length <;> simp [h1, h2, runP])
theorem stR_ok {n off i gi : Nat} {xs : List V} {H : Heap} {cs : List V} {kd : Kd} (hk : Zcs kd = true) (h1 : off + n ≤ cs.length) (h2 : i < H.length) : stR n off i gi xs H (some (.cells cs kd)) = some (.junk, H.set i (some (gi, .cells (Zbf cs off xs) kd)), [i], [i]) := by
  simp [stR, hk, h1, h2]

/-! ### Slices -/
/-- What a slice is: nil, or a row with a capacity that is known, or not. -/
inductive SC where
  | n
  | c (o : Option Nat)
/-- A slice of a row that never changes; 'n' stands for nil where the row is empty. -/
def enS {α : Type} (f : α → List V) (sz : Nat) (l : List α) : SC → V
  | .n => if l.isEmpty then .nils else .arr (l.flatMap f) sz l.length none
  | .c o => .arr (l.flatMap f) sz l.length o
theorem enS_nil {α : Type} (f : α → List V) (sz : Nat) : enS f sz [] .n = .nils := rfl
theorem Ydh {α : Type} (f : α → List V) (sz : Nat) (l : List α) (k : SC) (x : Opd) : opR P own id g (.len 0 x) [enS f sz l k] H = some (.int .i64 l.length, H, [], []) := by
  cases k with
  | c o => rfl
  | n => cases l <;> rfl
theorem o_lenN (x : Opd) : opR P own id g (.len 0 x) [.nils] H = some (.int .i64 0, H, [], []) := rfl
theorem o_lenS (x : Opd) (i gi sz off n : Nat) (c : Option Nat) : opR P own id g (.len 0 x) [.sl i gi sz off n c] H = some (.int .i64 n, H, [], []) := rfl
theorem o_iad {α : Type} (f : α → List V) (sz : Nat) (l : List α) (k : SC) (x y : Opd) (kd : IntKind) (i : Int) (h0 : 0 ≤ i) (h : i < l.length) : opR P own id g (.iad sz x y) [enS f sz l k, .int kd i] H = some (.pf (l.flatMap f) (i.toNat * sz), H, [], []) := by
  have key : ∀ o, opR P own id g (.iad sz x y) [.arr (l.flatMap f) sz l.length o, .int kd i] H = some (.pf (l.flatMap f) (i.toNat * sz), H, [], []) := fun o => by
    show runP (if sz = sz ∧ (0 : Int) ≤ i ∧ i < l.length then _ else _) H = _
    rw [if_pos ⟨rfl, h0, h⟩]; simp [runP]
  cases k with
  | c o => exact key o
  | n => cases l with
    | nil => simp at h; omega
    | cons a t => exact key _
theorem o_iadS (sz : Nat) (x y : Opd) (kd : IntKind) (gi sid off n : Nat) (i : Int) (c : Option Nat) (h0 : 0 ≤ i) (h : i < n) : opR P own id g (.iad sz x y) [.sl sid gi sz off n c, .int kd i] H = some (.ptr sid gi (off + i.toNat * sz), H, [], []) := by
  show runP (if sz = sz ∧ (0 : Int) ≤ i ∧ i < n then _ else _) H = _
  rw [if_pos ⟨rfl, h0, h⟩]; simp [runP]
theorem Zns {α : Type} (f : α → List V) (sz : Nat) (hf : ∀ a, (f a).length = sz) (l : List α) (i : Nat) (d : α) (h : i < l.length) : cut (l.flatMap f) (i * sz) sz = f (l.getD i d) := by
  induction l generalizing i with
  | nil => simp at h
  | cons a t ih => cases i with
    | zero => simp [cut, List.take_append_of_le_length, hf]
    | succ i =>
      have := ih i (by simpa using h)
      simp only [cut, List.flatMap_cons, List.getD_cons_succ] at this ⊢
      rw [← this, List.drop_append, hf, List.drop_eq_nil_of_le (by rw [hf, Nat.succ_mul]; omega), List.nil_append]
      congr 2
      rw [Nat.succ_mul]; omega
theorem Zel {α : Type} (f : α → List V) (sz : Nat) (hf : ∀ a, (f a).length = sz) (l : List α) : (l.flatMap f).length = l.length * sz := by
  induction l with
  | nil => simp
  | cons a t ih => simp [ih, hf, Nat.succ_mul]; omega
theorem Zfc {α : Type} (f : α → List V) (sz : Nat) (ag : Bool) (hf : ∀ a, (f a).length = sz) (l : List α) (i : Nat) (d : α) (h : i < l.length) : ldC sz ag (i * sz) (l.flatMap f) = mkV ag (f (l.getD i d)) := by
  unfold ldC
  rw [Zns f sz hf l i d h, Zel f sz hf, if_pos]
  have : (i + 1) * sz ≤ l.length * sz := Nat.mul_le_mul_right _ h
  rw [Nat.succ_mul] at this; exact this
end Go.AM

set_option linter.unusedVariables false
namespace Go.AM
variable {P : Zce} {own : List (Nat × Nat)} {id g : Nat} {H : Heap}

/-! ### Values that hold nothing of the heap -/
theorem Zbi : Zak.pureL [] = true := by simp [Zak.pureL]
theorem Zax (v : V) (vs : List V) : Zak.pureL (v :: vs) = (Zak v && Zak.pureL vs) := by simp [Zak.pureL]
theorem Zbe (k : IntKind) (n : Int) : Zak (.int k n) = true := by simp [Zak]
theorem Zxj (b : Bool) : Zak (.bool b) = true := by simp [Zak]
theorem Zhc (cs : List V) (sz n : Nat) (c : Option Nat) : Zak (.arr cs sz n c) = true := by simp [Zak]
theorem Zqb : Zak .nils = true := by simp [Zak]
theorem Ydl (cs : List V) (n : Nat) : Zak (.pf cs n) = true := by simp [Zak]
theorem Zfg (cs : List V) : Zak (.agg cs) = Zak.pureL cs := by simp [Zak]
theorem Ybt (cs : List V) : Zak (.tup cs) = Zak.pureL cs := by simp [Zak]
theorem Zed (f : Nat) (a b : List V) : Zak (.fn f a b) = (Zak.pureL a && Zak.pureL b) := by simp [Zak]
theorem Zcf {α : Type} (f : α → List V) (sz : Nat) (l : List α) (k : SC) : Zak (enS f sz l k) = true := by
  cases k with
  | c o => simp [enS, Zak]
  | n => cases l <;> simp [enS, Zak]
theorem Zjj {α : Type} (f : α → List V) (hf : ∀ a, Zak.pureL (f a) = true) (l : List α) : Zak.pureL (l.flatMap f) = true := by
  induction l with
  | nil => simp [Zak.pureL]
  | cons a t ih =>
    have app : ∀ x y : List V, Zak.pureL x = true → Zak.pureL y = true → Zak.pureL (x ++ y) = true := by
      intro x y hx hy
      induction x with
      | nil => exact hy
      | cons v vs ihv =>
        simp only [List.cons_append, Zax, Bool.and_eq_true] at hx ⊢
        exact ⟨hx.1, ihv hx.2⟩
    exact app _ _ (hf a) ih

/-! ### Calls on heaps of their own -/
noncomputable def isoR (H : Heap) : Option (V × Option (List V × Kd)) → OpR
  | some (v, none) => some (v, H, [], [])
  | _ => none
theorem Zfv (H : Heap) (v : V) : isoR H (some (v, none)) = some (v, H, [], []) := rfl
theorem o_iso (x : Opd) (ys : List Opd) (f : Nat) (a b args : List V) (h : Zak.pureL (a ++ args ++ b) = true) : opR P own id g (.call .iso x ys) (.fn f a b :: args) H = isoR H (Zaq P (X P) false f (a ++ args ++ b)) := by
  show runP (Zbg false 9 (a ++ args ++ b) fun args' => match Zaq P (X P) false f args' with
      | some (v, none) => if Zak.pureL (a ++ args ++ b) || Zcz v then .ret v else .no
      | _ => .no) H = _
  simp only [Zbg, h, if_true, Bool.true_or]
  unfold isoR
  split <;> simp_all [runP]
theorem Zmq (x : Opd) (ys : List Opd) (f : Nat) (args : List V) (h : Zak.pureL args = true) : opR P own id g (.call .iso x ys) (.fn f [] [] :: args) H = isoR H (Zaq P (X P) false f args) := by
  have := o_iso (P := P) (own := own) (id := id) (g := g) (H := H) x ys f [] [] args (by simpa using h)
  simpa using this
theorem Zwc {op : Aop} {vals : List V} (h : Zak.pureL vals = true) : frzR P own id g op vals H = opR P own id g op vals H := by
  unfold frzR opR Zbg
  rw [if_pos h]
/-- The end of a function that runs on a heap of its own. -/
def frzO (H : Heap) : Option V → Option (V × Option (List V × Kd))
  | some v => Zdm v H
  | none => none
def finX (res : List ARes) : Option (Ex × St) → Option (V × Option (List V × Kd))
  | some (.normal, s) | some (.ret, s) => frzO s.H (resV s.env s.H res)
  | _ => none
theorem Yar (res : List ARes) (e : List V) (H : Heap) (g : Nat) (rd : Option (Nat × Nat)) : finX res (some (.ret, ⟨e, H, g, rd⟩)) = frzO H (resV e H res) := rfl
theorem Zrm (res : List ARes) (e : List V) (H : Heap) (g : Nat) (rd : Option (Nat × Nat)) : finX res (some (.normal, ⟨e, H, g, rd⟩)) = frzO H (resV e H res) := rfl
theorem Ycg {f : Nat} {fn : AFun} {args : List V} (hf : P f = some fn) (hl : args.length = fn.np) : Zaq P (X P) false f args = finX fn.res (X P fn.body ⟨env0 fn.nt args, [], 0, none⟩) := by
  unfold Zaq
  rw [hf]
  simp only [hl, if_true, Bool.false_eq_true, if_false]
  cases hx : X P fn.body ⟨env0 fn.nt args, [], 0, none⟩ with
  | none => rfl
  | some q =>
    obtain ⟨ex, s⟩ := q
    cases ex <;> simp only [finX, frzO] <;> (cases resV s.env s.H fn.res <;> rfl)
theorem Zpa {v : V} (H : Heap) (h : Zak v = true) : frzO H (some v) = some (v, none) := by
  have : runP (Zav true 9 v .ret) H = some (v, H, [], []) := by
    unfold Zav; rw [if_pos h]; rfl
  simp only [frzO, Zdm, this]
theorem Ybe (e : List V) (H : Heap) (t : Nat) : resV e H [.tmp t] = some (getE e t) := rfl
theorem Zxk (e : List V) (H : Heap) (t u : Nat) : resV e H [.tmp t, .tmp u] = some (.tup [getE e t, getE e u]) := rfl
theorem Zwp (e : List V) (H : Heap) (t u w : Nat) : resV e H [.tmp t, .tmp u, .tmp w] = some (.tup [getE e t, getE e u, getE e w]) := rfl
/-- A result that lies in a cell. -/
def resC (n : Nat) (ag : Bool) (off : Nat) : Option O → Option V
  | some (.cells cs _) => ldC n ag off cs
  | _ => none
theorem Zzb (e : List V) (H : Heap) (t n : Nat) (ag : Bool) {i gi off : Nat} (h : getE e t = .ptr i gi off) : resV e H [.cell t n ag] = resC n ag off (getH H i gi) := by
  have : Zjt e H (.cell t n ag) = resC n ag off (getH H i gi) := by
    simp only [Zjt, h]
    cases getH H i gi with
    | none => rfl
    | some o => cases o <;> rfl
  unfold resV
  simp only [resL, this]
  cases resC n ag off (getH H i gi) <;> rfl
def resP (n : Nat) (ag : Bool) (H : Heap) : V → Option V
  | .ptr i gi off => resC n ag off (getH H i gi)
  | _ => none
theorem Zuw (e : List V) (H : Heap) (t n : Nat) (ag : Bool) : resV e H [.cell t n ag] = resP n ag H (getE e t) := by
  cases h : getE e t with
  | ptr i gi off => exact Zzb e H t n ag h
  | _ => simp [resV, resL, Zjt, h, resP]
theorem Zna (n : Nat) (ag : Bool) (H : Heap) (i gi off : Nat) : resP n ag H (.ptr i gi off) = resC n ag off (getH H i gi) := rfl
theorem Zvg (n : Nat) (ag : Bool) (off : Nat) (cs : List V) (kd : Kd) : resC n ag off (some (.cells cs kd)) = ldC n ag off cs := rfl

/-! ### Numbers -/
theorem Zay {n : Int} (h1 : -9223372036854775808 ≤ n) (h2 : n < 9223372036854775808) : IntKind.i64.wrap n = n := by
  unfold IntKind.wrap
  show (if (true && decide (n % 18446744073709551616 ≥ 9223372036854775808)) = true then n % 18446744073709551616 - 18446744073709551616 else n % 18446744073709551616) = n
  by_cases h : n % 18446744073709551616 ≥ 9223372036854775808
  · simp only [h, decide_true, Bool.and_self, if_true]; omega
  · simp only [h, decide_false, Bool.and_false, Bool.false_eq_true, if_false]; omega
theorem Zfy {n : Nat} (h : n < 9223372036854775808) : IntKind.i64.wrap (n : Int) = n := Zay (by omega) (by omega)
end Go.AM
