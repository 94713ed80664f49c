/- Loops. -/
import Derived.Test.YteooegmokbbeoaaGauB
set_option linter.unusedVariables false
namespace Go.AM
variable {P : Zce}
/-- A loop by an invariant 'I' whose number falls, and what holds at its end. -/
theorem Zbx {b : Option Nat} {B : AC} {rd : Option (Nat × Nat)} (I : Nat → List V → Heap → Nat → Prop) (Q : Ex → List V → Heap → Nat → Prop)
    (hs : ∀ k e H g, I k e H g → ∃ ex e' H' g', X P B (Zpd b ⟨e, H, g, rd⟩) = some (ex, ⟨e', H', g', rd⟩) ∧ (ex = .normal ∧ (∃ k', k' < k ∧ I k' e' H' g') ∨ ex ≠ .normal ∧ Q ex e' H' g')) :
    ∀ k e H g, I k e H g → ∃ ex e' H' g', X P (.inl b B) ⟨e, H, g, rd⟩ = some (ex, ⟨e', H', g', rd⟩) ∧ Q ex e' H' g' := by
  intro k
  induction k using Nat.strongRecOn with
  | ind k ih =>
    intro e H g hI
    obtain ⟨ex, e1, H1, g1, hx, h | h⟩ := hs k e H g hI
    · obtain ⟨rfl, k', hk, hI'⟩ := h
      obtain ⟨ex, e2, H2, g2, h2, hq⟩ := ih k' hk e1 H1 g1 hI'
      exact ⟨ex, e2, H2, g2, by rw [Ygf, hx]; exact h2, hq⟩
    · obtain ⟨hne, hq⟩ := h
      refine ⟨ex, e1, H1, g1, ?_, hq⟩
      rw [Ygf, hx]
      cases ex with
      | normal => exact absurd rfl hne
      | exit i => rfl
      | ret => rfl
theorem Zat {f : Nat} {fn : AFun} {args : List V} (hf : P f = some fn) (hl : args.length = fn.np) (hn : fn.np ≤ fn.nt) : ∃ e, e.length = fn.nt ∧ (∀ i, i < args.length → getE e i = getE args i) ∧ Zaq P (X P) false f args = finX fn.res (X P fn.body ⟨e, [], 0, none⟩) :=
  ⟨env0 fn.nt args, Zgc (by omega), fun i hi => Zid hi, Ycg hf hl⟩
/-! ### Regions whose order is open, operation by operation -/
theorem X_dyn {dep : List (List Nat)} {tot : Nat} {ops : List RS} (h : Zwv 0 dep ops [] = false) (e : List V) (H : Heap) (g : Nat) (rd : Option (Nat × Nat)) : X P (.regd dep tot ops) ⟨e, H, g, rd⟩ = endD (g + tot) rd (RunD P H.length g 0 dep ops [] e (H ++ List.replicate tot none)) := X_regd dep tot ops e H g rd
theorem Zzx (b γ i : Nat) (dep : List (List Nat)) (past : List (Nat × RS × (List Nat × List Nat))) (e : List V) (H : Heap) : RunD P b γ i dep [] past e H = some (e, H) := rfl
theorem Ygy (b γ i : Nat) (dep : List (List Nat)) (d : Option Nat) (op : Aop) (k : Nat) (own : List (Nat × Nat)) (rs : List RS) (past : List (Nat × RS × (List Nat × List Nat))) (e : List V) (H : Heap) (hr : Zho op = false) :
    RunD P b γ i dep (⟨d, op, none, k, false, own⟩ :: rs) past e H = Zgg P b γ i dep ⟨d, op, none, k, false, own⟩ rs past e (opR P own (b + k) (γ + k) op (op.opds.map (Zbz e)) H) := by
  unfold RunD
  rw [runD]
  simp only [Zda, Zep, hr, Zdc, Bool.false_eq_true, if_false]
  unfold opR Zgg
  cases runP (Zaz (Zaq P (X P)) own (b + k) (γ + k) op (op.opds.map (Zbz e))) H with
  | none => rfl
  | some q => rfl
theorem Ybl (b γ i : Nat) (dep : List (List Nat)) (d : Option Nat) (op : Aop) (k : Nat) (own : List (Nat × Nat)) (rs : List RS) (past : List (Nat × RS × (List Nat × List Nat))) (e : List V) (H : Heap) (hr : Zho op = false) :
    RunD P b γ i dep (⟨d, op, none, k, true, own⟩ :: rs) past e H = Zgg P b γ i dep ⟨d, op, none, k, true, own⟩ rs past e (frzR P own (b + k) (γ + k) op (op.opds.map (Zbz e)) H) := by
  unfold RunD
  rw [runD]
  simp only [Zda, Zep, hr, Zdc, Bool.false_eq_true, if_false, if_true]
  unfold frzR Zgg
  cases runP (Zbg true 9 (op.opds.map (Zbz e)) fun vals' => Zaz (Zaq P (X P)) own (b + k) (γ + k) op vals') H with
  | none => rfl
  | some q => rfl
theorem RunD_skip (b γ i : Nat) (dep : List (List Nat)) (d : Option Nat) (op : Aop) (t : Nat) (w : Bool) (k : Nat) (fz : Bool) (own : List (Nat × Nat)) (rs : List RS) (past : List (Nat × RS × (List Nat × List Nat))) (e : List V) (H : Heap) (hg : Zep e (some (t, w)) = some false) :
    RunD P b γ i dep (⟨d, op, some (t, w), k, fz, own⟩ :: rs) past e H = Zgg P b γ i dep ⟨d, op, some (t, w), k, fz, own⟩ rs past e (some (.tup [], H, [], [])) := by
  unfold RunD
  rw [runD]
  simp only [Zda, hg]
  rfl
theorem RunD_grd (b γ i : Nat) (dep : List (List Nat)) (d : Option Nat) (op : Aop) (t : Nat) (w : Bool) (k : Nat) (own : List (Nat × Nat)) (rs : List RS) (past : List (Nat × RS × (List Nat × List Nat))) (e : List V) (H : Heap) (hr : Zho op = false) (hg : Zep e (some (t, w)) = some true) :
    RunD P b γ i dep (⟨d, op, some (t, w), k, false, own⟩ :: rs) past e H = Zgg P b γ i dep ⟨d, op, some (t, w), k, false, own⟩ rs past e (opR P own (b + k) (γ + k) op (op.opds.map (Zbz e)) H) := by
  unfold RunD
  rw [runD]
  simp only [Zda, hg, hr, Zdc, Bool.false_eq_true, if_false]
  unfold opR Zgg
  cases runP (Zaz (Zaq P (X P)) own (b + k) (γ + k) op (op.opds.map (Zbz e))) H with
  | none => rfl
  | some q => rfl
theorem Yce {b γ i : Nat} {dep : List (List Nat)} {r : RS} {rs : List RS} {past : List (Nat × RS × (List Nat × List Nat))} {e : List V} {v : V} {H : Heap} {x y : List Nat} (h : Zcw (dep.headD []) r (x, y) past = true) : Zgg P b γ i dep r rs past e (some (v, H, x, y)) = RunD P b γ (i + 1) dep.tail rs ((i, r, (x, y)) :: past) (putO e r.dst v) H := by
  simp only [Zgg, h, if_true]
theorem ldC_0 (c : V) (cs : List V) : ldC 1 false 0 (c :: cs) = some c := by simp [ldC, cut, mkV]
theorem ldC_S (n off : Nat) (ag : Bool) (c : V) (cs : List V) : ldC n ag (off + 1) (c :: cs) = ldC n ag off cs := by
  unfold ldC
  have : (off + 1 + n ≤ (c :: cs).length) = (off + n ≤ cs.length) := by simp only [List.length_cons, eq_iff_iff]; omega
  simp only [this, cut, List.drop_succ_cons]
theorem ldC_2 (a b : V) (cs : List V) : ldC 2 true 0 (a :: b :: cs) = some (.agg [a, b]) := by simp [ldC, cut, mkV]
theorem ldC_3 (a b c : V) (cs : List V) : ldC 3 true 0 (a :: b :: c :: cs) = some (.agg [a, b, c]) := by simp [ldC, cut, mkV]
theorem ldC_4 (a b c d : V) (cs : List V) : ldC 4 true 0 (a :: b :: c :: d :: cs) = some (.agg [a, b, c, d]) := by simp [ldC, cut, mkV]
theorem ldC_5 (a b c d e : V) (cs : List V) : ldC 5 true 0 (a :: b :: c :: d :: e :: cs) = some (.agg [a, b, c, d, e]) := by simp [ldC, cut, mkV]
theorem Zwd (k : IntKind) (n : Int) : Zcc (.int k n) = true := (rfl)
theorem Zrh (k : IntKind) (n : Int) : Zbj (.int k n) = [.int k n] := (rfl)
theorem Zun (b : Bool) : Zcc (.bool b) = true := (rfl)
theorem Zpy (b : Bool) : Zbj (.bool b) = [.bool b] := (rfl)
theorem Zty  : Zcc .nils = true := (rfl)
theorem Zpn  : Zbj .nils = [.nils] := (rfl)
theorem Zxx (cs : List V) : Zcc (.agg cs) = true := (rfl)
theorem Zrn (cs : List V) : Zbj (.agg cs) = cs := (rfl)
theorem Ybs (i g sz off n : Nat) (c : Option Nat) : Zcc (.sl i g sz off n c) = true := (rfl)
theorem Zuf (i g sz off n : Nat) (c : Option Nat) : Zbj (.sl i g sz off n c) = [.sl i g sz off n c] := (rfl)
theorem Zwn (cs : List V) (sz n : Nat) (c : Option Nat) : Zcc (.arr cs sz n c) = true := (rfl)
theorem Zqz (cs : List V) (sz n : Nat) (c : Option Nat) : Zbj (.arr cs sz n c) = [.arr cs sz n c] := (rfl)
theorem Zza (i g o : Nat) : Zcc (.ptr i g o) = true := (rfl)
theorem Zra (i g o : Nat) : Zbj (.ptr i g o) = [.ptr i g o] := (rfl)
theorem Yca (f : Nat) (a b : List V) : Zcc (.fn f a b) = true := (rfl)
theorem Zup (f : Nat) (a b : List V) : Zbj (.fn f a b) = [.fn f a b] := (rfl)
theorem Yba (i g : Nat) : Zcc (.mp i g) = true := (rfl)
theorem Zva (i g : Nat) : Zbj (.mp i g) = [.mp i g] := (rfl)
theorem Zuk  : Zcc .nilf = true := (rfl)
theorem Zpk  : Zbj .nilf = [.nilf] := (rfl)
theorem Zus  : Zcc .nilm = true := (rfl)
theorem Zpe  : Zbj .nilm = [.nilm] := (rfl)
theorem Zve  : Zcc .nilp = true := (rfl)
theorem Zpm  : Zbj .nilp = [.nilp] := (rfl)
theorem Zwr (s : ByteArray) : Zcc (.str s) = true := (rfl)
theorem Zre (s : ByteArray) : Zbj (.str s) = [.str s] := (rfl)
theorem Zze (i g : Nat) : Zcc (.yld i g) = true := (rfl)
theorem Zrc (i g : Nat) : Zbj (.yld i g) = [.yld i g] := (rfl)
theorem Zwy {α : Type} (f : α → List V) (sz : Nat) (l : List α) (k : SC) : Zcc (enS f sz l k) = true := by
  cases k with
  | c o => rfl
  | n => cases l <;> rfl
theorem Zqs {α : Type} (f : α → List V) (sz : Nat) (l : List α) (k : SC) : Zbj (enS f sz l k) = [enS f sz l k] := by
  cases k with
  | c o => rfl
  | n => cases l <;> rfl
end Go.AM

set_option linter.unusedVariables false
set_option linter.unusedSimpArgs false
namespace Go.AM
variable {P : Zce} {own : List (Nat × Nat)} {id g : Nat} {H : Heap}
class Enc {α : Type} (f : α → List V) (sz : outParam Nat) : Prop where
  len : ∀ a, (f a).length = sz
  pos : 0 < sz
  pure : ∀ a, Zak.pureL (f a) = true
section
variable {α : Type} {f : α → List V} {sz : Nat} [Enc f sz]
theorem Zbn (l : List α) : (l.flatMap f).length = l.length * sz := Zel f sz Enc.len l
end
section
variable {α : Type} {f : α → List V} {sz : Nat}
theorem Zdd {sz : Nat} [h : Enc f sz] (l : List α) : Zak.pureL (l.flatMap f) = true := Zjj f h.pure l
end
section
variable {α : Type} {f : α → List V} {sz : Nat} [Enc f sz]
end
section
variable {α : Type} {f : α → List V} {sz : Nat}
theorem Zbt (hf : ∀ a, (f a).length = sz) (l : List α) : cut (l.flatMap f) 0 (l.length * sz) = l.flatMap f := by
  simp only [cut, List.drop_zero]; exact List.take_of_length_le (by rw [Zel f sz hf]; exact Nat.le_refl _)
end
section
variable {α : Type} {f : α → List V} {sz : Nat} [Enc f sz]
/-- A list that grows by append. -/
def grO (f : α → List V) (l : List α) : O := .cells (l.flatMap f) (if l.isEmpty then .nilo else .loose)
def frO (f : α → List V) (l : List α) : O := .cells (l.flatMap f) (if l.isEmpty then .nilo else .froz)
end
section
variable {α : Type} {f : α → List V} {sz : Nat}
theorem nilo_grO : O.cells [] .nilo = grO f [] := rfl

end
section
variable {α : Type} {f : α → List V} {sz : Nat} [Enc f sz]
def appK (bytes id g sz i gi n : Nat) (c : Option Nat) (news : List V) (m : Nat) : O → Plan
  | .cells cs kd =>
    if 0 + n * sz ≤ cs.length then
      match c with
      | some c =>
        if c < n + m then .wr id (some (g, .cells (cut cs 0 (n * sz) ++ news) .loose)) (.ret (.sl id g sz 0 (n + m) none))
        else match kd with
          | .fixed | .loose => if 0 + (n + m) * sz ≤ cs.length then .wr i (some (gi, .cells (Zbf cs (0 + n * sz) news) kd)) (.ret (.sl i gi sz 0 (n + m) (some c))) else .no
          | _ => .no
      | none => match kd with
        | .nilo => if m = 0 then .ret (.sl i gi sz 0 n none) else .wr i (some (g, .cells news .loose)) (.ret (.sl i g sz 0 m none))
        | .loose =>
          if 0 + (n + m) * sz ≤ cs.length then .wr i (some (gi, .cells (Zbf cs (0 + n * sz) news) kd)) (.ret (.sl i gi sz 0 (n + m) none))
          else .wr i (some (g, .cells (cut cs 0 (n * sz) ++ news) .loose)) (.ret (.sl i g sz 0 (n + m) none))
        | _ => .no
    else .no
  | _ => .no
def appG (bytes id g sz i gi n : Nat) (c : Option Nat) (news : List V) (m : Nat) (H : Heap) (rs : List Nat) : Option O → OpR
  | some o => runP (if (n + m) * bytes ≤ Zcp ∧ 0 < bytes then appK bytes id g sz i gi n c news m o else .no) H |>.map fun q => (q.1, q.2.1, rs ++ i :: q.2.2.1, q.2.2.2)
  | none => none
/-- append of one element that lies in an object. -/
def appA (bytes id g sz i gi n : Nat) (c : Option Nat) (j : Nat) (H : Heap) (s : Option O) : Option O → OpR
  | some (.cells cs _) => if 0 + 1 * sz ≤ cs.length then appG bytes id g sz i gi n c (cut cs 0 (1 * sz)) 1 H [j] s else none
  | _ => none
end
section
variable {α : Type} {f : α → List V} {sz : Nat}
theorem Zyq (bytes i gi n : Nat) (c : Option Nat) (x : V) : appP sz bytes id g (.sl i gi sz 0 n c) x = Zjk sz x fun news m => if (n + m) * bytes ≤ Zcp ∧ 0 < bytes then .rd i gi (appK bytes id g sz i gi n c news m) else .no := by
  unfold appP
  congr 1
  funext news m
  simp only [true_and]
  by_cases h : (n + m) * bytes ≤ Zcp ∧ 0 < bytes
  · simp only [if_pos h]
    congr 1
    funext o
    cases o with
    | cells cs kd => cases c <;> cases kd <;> rfl
    | map es => rfl
    | loop => rfl
  · simp only [if_neg h]
end
section
variable {α : Type} {f : α → List V} {sz : Nat} [Enc f sz]
end
section
variable {α : Type} {f : α → List V} {sz : Nat}
theorem Zsn (bytes i gi n : Nat) (c : Option Nat) (news : List V) (m : Nat) (H : Heap) (rs : List Nat) : (runP (if (n + m) * bytes ≤ Zcp ∧ 0 < bytes then .rd i gi (appK bytes id g sz i gi n c news m) else .no) H).map (fun q => (q.1, q.2.1, rs ++ q.2.2.1, q.2.2.2)) = appG bytes id g sz i gi n c news m H rs (getH H i gi) := by
  by_cases h : (n + m) * bytes ≤ Zcp ∧ 0 < bytes
  · simp only [if_pos h, runP, appG]
    cases getH H i gi with
    | none => rfl
    | some o =>
      simp only [if_pos h]
      cases runP (appK bytes id g sz i gi n c news m o) H <;> rfl
  · simp only [if_neg h, runP, appG]
    cases getH H i gi with
    | none => rfl
    | some o => simp [if_neg h, runP]
end
section
variable {α : Type} {f : α → List V} {sz : Nat} [Enc f sz]
end
section
variable {α : Type} {f : α → List V} {sz : Nat}
theorem o_app1 (bytes : Nat) (x y : Opd) (i gi n j gj : Nat) (c0 c : Option Nat) : opR P own id g (.app sz bytes x y) [.sl i gi sz 0 n c0, .sl j gj sz 0 1 c] H = appA bytes id g sz i gi n c0 j H (getH H i gi) (getH H j gj) := by
  show runP (appP sz bytes id g (.sl i gi sz 0 n c0) (.sl j gj sz 0 1 c)) H = _
  rw [Zyq]
  simp only [Zjk, if_true, runP]
  cases getH H j gj with
  | none => rfl
  | some o =>
    cases o <;> simp only [appA, runP] <;> (try rfl)
    rename_i cs kd
    by_cases h : 0 + 1 * sz ≤ cs.length
    · simp only [if_pos h]
      rw [← Zsn]
      cases runP (if (n + 1) * bytes ≤ Zcp ∧ 0 < bytes then .rd i gi (appK bytes id g sz i gi n c0 (cut cs 0 (1 * sz)) 1) else .no) H <;> rfl
    · simp only [if_neg h, runP]
end
section
variable {α : Type} {f : α → List V} {sz : Nat} [Enc f sz]
theorem o_appS (bytes : Nat) (x y : Opd) (i gi n : Nat) (c : Option Nat) (xs : List α) (k : SC) : opR P own id g (.app sz bytes x y) [.sl i gi sz 0 n c, enS f sz xs k] H = appG bytes id g sz i gi n c (xs.flatMap f) xs.length H [] (getH H i gi) := by
  have key : ∀ v, (∀ kk, Zjk sz v kk = kk (xs.flatMap f) xs.length) → opR P own id g (.app sz bytes x y) [.sl i gi sz 0 n c, v] H = appG bytes id g sz i gi n c (xs.flatMap f) xs.length H [] (getH H i gi) := fun v hv => by
    show runP (appP sz bytes id g (.sl i gi sz 0 n c) v) H = _
    rw [Zyq, hv, ← Zsn]
    cases runP (if (n + xs.length) * bytes ≤ Zcp ∧ 0 < bytes then .rd i gi (appK bytes id g sz i gi n c (xs.flatMap f) xs.length) else .no) H <;> rfl
  have hl := Zbn (f := f) xs
  cases k with
  | c o => exact key _ fun kk => by simp [enS, Zjk, hl]
  | n => cases xs with
    | nil => exact key _ fun kk => by simp [enS, Zjk]
    | cons a t => exact key _ fun kk => by simp only [enS, List.isEmpty_cons, Bool.false_eq_true, if_false, Zjk, hl, and_self, if_true]
theorem Ydx (bytes i gi j : Nat) (l : List α) (a : α) (kd : Kd) (hb : (l.length + 1) * bytes ≤ Zcp) (h0 : 0 < bytes) (hi : i < H.length) :
    appA bytes id g sz i gi l.length none j H (some (grO f l)) (some (.cells (f a) kd)) = some (.sl i g sz 0 (l.length + 1) none, H.set i (some (g, grO f (l ++ [a]))), [j, i], [i]) := by
  have hf := Enc.len (f := f) (sz := sz)
  have hp : 0 < sz := Enc.pos f
  have hc : cut (f a) 0 sz = f a := by simp only [cut, List.drop_zero]; exact List.take_of_length_le (by rw [hf]; exact Nat.le_refl _)
  simp only [appA, hf, Nat.zero_add, Nat.one_mul, Nat.le_refl, if_true, appG, grO, hb, h0, and_self, appK, Zbn, Zel f sz hf]
  cases l with
  | nil => simp [runP, hi, hc, grO]
  | cons b t =>
    have hne : ¬((b :: t).length + 1) * sz ≤ (b :: t).length * sz := by rw [Nat.succ_mul]; omega
    have hc2 := Zbt hf (b :: t)
    simp only [List.isEmpty_cons, Bool.false_eq_true, if_false, hne, runP, hi, if_true, hc, hc2, Option.map_some]
    simp [grO]
theorem Zhl {cs : List V} {n : Nat} (bytes i gi j : Nat) (l : List α) (a : α) (kd : Kd) (hc : cs = f a) (hn : n = l.length) (hb : (n + 1) * bytes ≤ 140737488355328) (h0 : 0 < bytes) (hi : i < H.length) :
    appA bytes id g sz i gi n none j H (some (grO f l)) (some (.cells cs kd)) = some (.sl i g sz 0 (n + 1) none, H.set i (some (g, grO f (l ++ [a]))), [j, i], [i]) := by
  subst hc; subst hn
  exact Ydx bytes i gi j l a kd hb h0 hi
/-- append of an element to a full slice whose capacity is known. -/
theorem Zyx {cs : List V} {n : Nat} (bytes i gi j c : Nat) (l : List α) (a : α) (kd ki : Kd) (hc : cs = f a) (hn : n = l.length) (hb : (n + 1) * bytes ≤ 140737488355328) (h0 : 0 < bytes) (hi : id < H.length) (hcn : c < n + 1) :
    appA bytes id g sz i gi n (some c) j H (some (.cells (l.flatMap f) ki)) (some (.cells cs kd)) = some (.sl id g sz 0 (n + 1) none, H.set id (some (g, grO f (l ++ [a]))), [j, i], [id]) := by
  subst hc; subst hn
  have hb' : (l.length + 1) * bytes ≤ Zcp := hb
  have hf := Enc.len (f := f) (sz := sz)
  have hca : cut (f a) 0 sz = f a := by simp only [cut, List.drop_zero]; exact List.take_of_length_le (by rw [hf]; exact Nat.le_refl _)
  have hcl := Zbt hf l
  simp only [appA, hf, Nat.zero_add, Nat.one_mul, Nat.le_refl, if_true, appG, hb', h0, and_self, appK, Zel f sz hf, hcn, runP, hi, hca, hcl, Option.map_some]
  simp [grO]
/-- append of a row to an empty slice without room. -/
theorem Zyh (bytes i gi : Nat) (ki : Kd) (hk : Zcs ki = true) (h0 : 0 < bytes) (hi : i < H.length) :
    appG bytes id g sz i gi 0 (some 0) [] 0 H [] (some (.cells [] ki)) = some (.sl i gi sz 0 0 (some 0), H.set i (some (gi, .cells [] ki)), [i], [i]) := by
  cases ki <;> simp only [Zcs, Bool.false_eq_true] at hk <;> simp [appG, appK, h0, runP, hi, Zbf, Zcp]
end
section
variable {α : Type} {f : α → List V} {sz : Nat}
theorem Zzl (bytes i gi : Nat) (xs : List α) (ki : Kd) (hx : xs ≠ []) (h0 : 0 < bytes) (hb : xs.length * bytes ≤ 140737488355328) (hi : id < H.length) :
    appG bytes id g sz i gi 0 (some 0) (xs.flatMap f) xs.length H [] (some (.cells [] ki)) = some (.sl id g sz 0 xs.length none, H.set id (some (g, grO f xs)), [i], [id]) := by
  have hb' : xs.length * bytes ≤ Zcp := hb
  have hp : 0 < xs.length := List.length_pos_iff.mpr hx
  simp only [appG, appK, Nat.zero_add, hb', h0, and_self, if_true, Nat.zero_mul, List.length_nil, Nat.le_refl, hp, runP, hi, Option.map_some, cut, List.drop_nil, List.take_nil, List.nil_append]
  cases xs with
  | nil => exact absurd rfl hx
  | cons a t => simp [grO]
end
section
variable {α : Type} {f : α → List V} {sz : Nat} [Enc f sz]
end
theorem Zum (cs : List V) : Zbf cs 0 [] = cs := by simp [Zbf]
theorem Zru (c x : V) (cs xs : List V) : Zbf (c :: cs) 0 (x :: xs) = x :: Zbf cs 0 xs := by simp [Zbf]
theorem Ybp (c : V) (cs xs : List V) (n : Nat) : Zbf (c :: cs) (n + 1) xs = c :: Zbf cs n xs := by
  simp only [Zbf, List.take_succ_cons, List.cons_append]
  congr 1
  have : n + 1 + xs.length = (n + xs.length) + 1 := by omega
  rw [this, List.drop_succ_cons]
section
variable {α : Type} {f : α → List V} {sz : Nat} [Enc f sz]
/-! ### Literals, make, an element written -/
def bslR (id g sz len : Nat) (H : Heap) : Option (List V) → OpR
  | some cs => if id < H.length then some (.sl id g sz 0 len (some len), H.set id (some (g, .cells cs .fixed)), [], [id]) else none
  | none => none
theorem Zxe (id g sz len : Nat) (cs : List V) (hl : id < H.length) : bslR id g sz len H (some cs) = some (.sl id g sz 0 len (some len), H.set id (some (g, .cells cs .fixed)), [], [id]) := by simp [bslR, hl]
theorem o_bsl (sz len : Nat) (z : List V) (ps : List (Nat × Nat × Opd)) (vals : List V) (hz : z.length = sz ∧ 0 < sz ∧ len * sz ≤ 16777216) :
    opR P own id g (.bsl sz len z ps) vals H = bslR id g sz len H ((Zez vals ps).bind (Zjh (repl len z))) := by
  unfold opR Zaz
  simp only
  cases hp : Zez vals ps with
  | none => rfl
  | some l =>
    simp only [Option.bind_some]
    cases Zjh (repl len z) l with
    | none => rfl
    | some cs => simp only [hz, and_self, if_true, runP, bslR]
theorem o_mks (sz bytes : Nat) (z : List V) (x y : Opd) (k k' : IntKind) (n : Nat) (hb : n * bytes ≤ 140737488355328) (h0 : 0 < bytes) (hz : z.length = sz) (hp : 0 < sz) (hl : id < H.length) :
    opR P own id g (.mks sz bytes z x y) [.int k (n : Int), .int k' (n : Int)] H = some (.sl id g sz 0 n (some n), H.set id (some (g, .cells (repl n z) .fixed)), [], [id]) := by
  have hb' : ((n : Int) * (bytes : Int)) ≤ (Zcp : Int) := by exact_mod_cast hb
  have h1 : (0 : Int) ≤ n ∧ (n : Int) ≤ n ∧ (n : Int) * bytes ≤ Zcp ∧ 0 < bytes ∧ z.length = sz ∧ 0 < sz := ⟨by omega, by omega, hb', h0, hz, hp⟩
  show runP (if (0 : Int) ≤ n ∧ (n : Int) ≤ n ∧ (n : Int) * bytes ≤ Zcp ∧ 0 < bytes ∧ z.length = sz ∧ 0 < sz then _ else _) H = _
  rw [if_pos h1]
  simp only [runP, hl, if_true, Int.toNat_natCast]
theorem Zhj (n : Nat) (a : α) : repl n (f a) = (List.replicate n a).flatMap f := by
  induction n with
  | zero => rfl
  | succ n ih => simp only [repl, List.replicate_succ, List.flatten_cons, List.flatMap_cons] at ih ⊢; rw [ih]
theorem Zeo (l : List α) (k : Nat) (a : α) (h : k < l.length) : Zbf (l.flatMap f) (k * sz) (f a) = (l.set k a).flatMap f := by
  have hf := Enc.len (f := f) (sz := sz)
  induction l generalizing k with
  | nil => simp at h
  | cons b t ih =>
    cases k with
    | zero => simp [Zbf, List.drop_append, hf]
    | succ k =>
      have := ih k (by simpa using h)
      simp only [Zbf, List.flatMap_cons, List.set_cons_succ] at this ⊢
      rw [← this]
      have e1 : (k + 1) * sz = sz + k * sz := by rw [Nat.succ_mul]; omega
      rw [e1, hf]
      have e2 : sz + k * sz + sz = sz + (k * sz + sz) := by omega
      rw [e2, List.take_append, List.drop_append, hf]
      rw [List.take_of_length_le (by rw [hf]; omega), List.drop_eq_nil_of_le (by rw [hf]; omega)]
      simp [List.append_assoc]
theorem ldC_enc [Inhabited α] (ag : Bool) (l : List α) (i : Nat) (h : i < l.length) : ldC sz ag (i * sz) (l.flatMap f) = mkV ag (f (l.getD i default)) := Zfc f sz ag Enc.len l i default h

/-! ### Parts of slices -/
end
def SC.dr (e : Bool) (a : Nat) : SC → SC
  | .n => if e then .n else .c none
  | .c o => .c (o.map (· - a))
section
variable {α : Type} {f : α → List V} {sz : Nat} [Enc f sz]
theorem Zrr (l : List α) (a b : Nat) (h : a ≤ b) (hb : b ≤ l.length) : cut (l.flatMap f) (a * sz) ((b - a) * sz) = ((l.drop a).take (b - a)).flatMap f := by
  have hf := Enc.len (f := f) (sz := sz)
  have hd : ∀ (l : List α) (a : Nat), (l.flatMap f).drop (a * sz) = (l.drop a).flatMap f := by
    intro l
    induction l with
    | nil => intro a; simp
    | cons x t ih =>
      intro a
      cases a with
      | zero => simp
      | succ a =>
        simp only [List.flatMap_cons, List.drop_succ_cons]
        rw [← ih a, List.drop_append, hf, List.drop_eq_nil_of_le (by rw [hf, Nat.succ_mul]; omega), List.nil_append]
        congr 1
        rw [Nat.succ_mul]; omega
  have ht : ∀ (l : List α) (a : Nat), (l.flatMap f).take (a * sz) = (l.take a).flatMap f := by
    intro l
    induction l with
    | nil => intro a; simp
    | cons x t ih =>
      intro a
      cases a with
      | zero => simp
      | succ a =>
        simp only [List.flatMap_cons, List.take_succ_cons]
        rw [← ih a, List.take_append, hf, List.take_of_length_le (by rw [hf, Nat.succ_mul]; omega)]
        congr 2
        rw [Nat.succ_mul]; omega
  unfold cut
  rw [hd, ht]
theorem Yco (l : List α) (k : SC) (kd : IntKind) (z : Int) (h0 : 0 ≤ z) (h : z ≤ l.length) : slcV sz (enS f sz l k) (some (.int kd z)) none none = some (enS f sz (l.drop z.toNat) (k.dr l.isEmpty z.toNat)) := by
  have key : ∀ o, slcV sz (.arr (l.flatMap f) sz l.length o) (some (.int kd z)) none none = some (.arr ((l.drop z.toNat).flatMap f) sz (l.drop z.toNat).length (o.map (· - z.toNat))) := fun o => by
    have hz : z.toNat ≤ l.length := by omega
    have hc := Zrr (f := f) (sz := sz) l z.toNat l.length hz (Nat.le_refl _)
    have e1 : (List.drop z.toNat l).take (l.length - z.toNat) = l.drop z.toNat := List.take_of_length_le (by simp)
    rw [e1] at hc
    simp only [slcV, if_true, cuts, bndO, bnd, h0, h, and_self, Nat.le_refl, hc, List.length_drop]
  cases k with
  | c o => exact key o
  | n => cases l with
    | nil =>
      have : z = 0 := by simp at h; omega
      subst this
      simp [enS, slcV, cuts, bndO, bnd, SC.dr]
    | cons a t => exact key none
theorem Zwl (l : List α) (k : SC) (kd : IntKind) (z : Int) (h0 : 0 ≤ z) (h : z ≤ l.length) (hk : ∀ o, k = .c o → ∀ c, o = some c → l.length ≤ c) : slcV sz (enS f sz l k) none (some (.int kd z)) none = some (enS f sz (l.take z.toNat) (k.dr l.isEmpty 0)) := by
  have key : ∀ o : Option Nat, (∀ c, o = some c → l.length ≤ c) → slcV sz (.arr (l.flatMap f) sz l.length o) none (some (.int kd z)) none = some (.arr ((l.take z.toNat).flatMap f) sz (l.take z.toNat).length (o.map (· - 0))) := fun o ho => by
    have hz : z.toNat ≤ l.length := by omega
    have hc := Zrr (f := f) (sz := sz) l 0 z.toNat (Nat.zero_le _) hz
    simp only [Nat.zero_mul, Nat.sub_zero, List.drop_zero] at hc
    have hg : z ≤ ((o.getD l.length : Nat) : Int) := by
      cases o with
      | none => exact h
      | some c => have := ho c rfl; simp only [Option.getD_some]; omega
    simp only [slcV, if_true, cuts, bndO, bnd, h0, hg, and_self, hz, Nat.zero_mul, Nat.sub_zero, hc, List.length_take, Nat.min_eq_left hz, Nat.zero_le]
  cases k with
  | c o => exact key o (hk o rfl)
  | n => cases l with
    | nil =>
      have : z = 0 := by simp at h; omega
      subst this
      simp [enS, slcV, cuts, bndO, bnd, SC.dr]
    | cons a t => exact key none (by simp)
theorem Zqk (l : List α) (k : SC) (kd kd' : IntKind) (hk : ∀ o, k = .c o → ∀ c, o = some c → l.length ≤ c) : slcV sz (enS f sz l k) none (some (.int kd (l.length : Int))) (some (.int kd' (l.length : Int))) = some (enS f sz l (if l.isEmpty then k.dr true 0 else .c (some l.length))) ∨ (l = [] ∧ ∃ o, k = .c o) := by
  have key : ∀ o : Option Nat, (∀ c, o = some c → l.length ≤ c) → slcV sz (.arr (l.flatMap f) sz l.length o) none (some (.int kd (l.length : Int))) (some (.int kd' (l.length : Int))) = some (.arr (l.flatMap f) sz l.length (some l.length)) := fun o ho => by
    have hc := Zrr (f := f) (sz := sz) l 0 l.length (Nat.zero_le _) (Nat.le_refl _)
    simp only [Nat.zero_mul, Nat.sub_zero, List.drop_zero, List.take_length] at hc
    have hg : (l.length : Int) ≤ ((o.getD l.length : Nat) : Int) := by
      cases o with
      | none => exact Int.le_refl _
      | some c => have := ho c rfl; simp only [Option.getD_some]; omega
    have h0 : (0 : Int) ≤ l.length := by omega
    simp only [slcV, if_true, cuts, bndO, bnd, h0, hg, and_self, Int.toNat_natCast, Int.le_refl, Nat.le_refl, Nat.zero_mul, Nat.sub_zero, hc]
  cases l with
  | nil => cases k with
    | c o => exact .inr ⟨rfl, o, rfl⟩
    | n => exact .inl (by simp [enS, slcV, cuts, bndO, bnd, SC.dr])
  | cons a t => cases k with
    | c o => exact .inl (key o (hk o rfl))
    | n => exact .inl (key none (by simp))

/-! ### Lists that are frozen -/
theorem Zwi (i gi n : Nat) (c : Option Nat) (l : List α) (kd : Kd) (hk : Zcs kd = true) (hn : n = l.length) (hg : getH H i gi = some (.cells (l.flatMap f) kd)) : frzO H (some (.sl i gi sz 0 n c)) = some (enS f sz l (.c c), none) := by
  subst hn
  have hle : 0 + l.length * sz ≤ (l.flatMap f).length := by rw [Zbn]; omega
  have hc := Zbt (Enc.len (f := f) (sz := sz)) l
  have hi : i < H.length := by
    unfold getH at hg
    cases h : H[i]? with
    | none => rw [h] at hg; cases hg
    | some x => exact (List.getElem?_eq_some_iff.mp h).1
  unfold frzO Zdm
  simp only
  rw [Zav]
  simp only [Zak, Bool.false_eq_true, if_false, runP, hg, hle, if_true, Zdd, frzK]
  cases kd <;> simp only [Zcs, Bool.false_eq_true] at hk <;> simp [runP, hi, hc, enS]
theorem Znf (i gi n : Nat) (l : List α) (hn : n = l.length) (hg : getH H i gi = some (grO f l)) : frzO H (some (.sl i gi sz 0 n none)) = some (enS f sz l .n, none) := by
  cases l with
  | nil =>
    subst hn
    unfold frzO Zdm
    simp only
    rw [Zav]
    simp [Zak, runP, hg, grO, frzK, Zak.pureL, enS]
  | cons a t =>
    rw [Zwi (f := f) i gi n none (a :: t) .loose rfl hn (by rw [hg]; rfl)]
    rfl
end
end Go.AM

set_option linter.unusedVariables false
set_option linter.unusedSimpArgs false
namespace Go.AM
variable {P : Zce} {own : List (Nat × Nat)} {id g : Nat} {H : Heap}
def Zoj (cs : List V) (j : Nat) : Bool := match cs[j]? with
  | some .nils => true
  | _ => false
theorem Zrt (cs : List V) : Zoj (.nils :: cs) 0 = true := (rfl)
theorem Zrb (c : V) (cs : List V) (j : Nat) : Zoj (c :: cs) (j + 1) = Zoj cs j := by simp [Zoj]
theorem Zte {cs : List V} {j : Nat} (h : Zoj cs j = true) : cs[j]? = some .nils := by
  unfold Zoj at h
  split at h
  · assumption
  · cases h
theorem o_mvO (s : Nat) (x : Opd) (hs : 0 < s) (hl : id < H.length) : opR P [(0, s)] id g (.mv x) [.nils] H = some (.sl id g s 0 0 none, H.set id (some (g, .cells [] .nilo)), [], [id]) := by
  unfold opR Zaz
  simp [ownL, Zbj, hs, runP, hl]
theorem Ybi (j s : Nat) (z : List V) (hz : Zoj z j = true) (hs : 0 < s) (hl : id + 1 < H.length) : opR P [(j, s)] id g (.alloc z) [] H = some (.ptr id g 0, (H.set (id + 1) (some (g + 1, .cells [] .nilo))).set id (some (g, .cells (z.set j (.sl (id + 1) (g + 1) s 0 0 none)) .fixed)), [], [id + 1, id]) := by
  have hl2 : id < H.length := by omega
  have hz := Zte hz
  unfold opR Zaz
  simp [ownL, hz, hs, runP, hl, hl2]
theorem o_stO (n : Nat) (a x : Opd) (i gi off j s : Nat) (v : V) (h : Zcc v = true) (hn : (Zbj v).length = n) (hz : Zoj (Zbj v) j = true) (hs : 0 < s) (hl : id < H.length) :
    opR P [(j, s)] id g (.st n a x) [.ptr i gi off, v] H = (stR n off i gi ((Zbj v).set j (.sl id g s 0 0 none)) (H.set id (some (g, .cells [] .nilo))) (getH (H.set id (some (g, .cells [] .nilo))) i gi)).map fun q => (q.1, q.2.1, q.2.2.1, id :: q.2.2.2) := by
  have hz := Zte hz
  unfold opR Zaz
  simp only [h, hn, and_self, if_true, ownL, hz, hs, runP, hl]
  generalize hH : H.set id (some (g, .cells [] .nilo)) = H'
  cases getH H' i gi with
  | none => rfl
  | some o => cases o <;> simp only [stR] <;> (try rfl)
              rename_i cs kd
              cases kd <;> simp only [Zcs, runP, Bool.false_eq_true, false_and, if_false, true_and] <;> (first | rfl | (
                by_cases h1 : off + n ≤ cs.length <;> by_cases h2 : i < H'.length <;> simp [h1, h2, runP]))

section
variable {α : Type} {f : α → List V} {sz : Nat} [Enc f sz]
/-- One operand, a growing slice, is frozen. -/
noncomputable def frz1 (P : Zce) (own : List (Nat × Nat)) (id g : Nat) (op : Aop) (i gi sz n : Nat) (c : Option Nat) (H : Heap) : Option O → OpR
  | some o => runP (Zav true 9 (.sl i gi sz 0 n c) fun v => Zaz (Zaq P (X P)) own id g op [v]) H
  | none => none
end
section
variable {α : Type} {f : α → List V} {sz : Nat}
theorem Ygk (op : Aop) (i gi s n : Nat) (c : Option Nat) : frzR P own id g op [.sl i gi s 0 n c] H = frz1 P own id g op i gi s n c H (getH H i gi) := by
  have e1 : frzR P own id g op [.sl i gi s 0 n c] H = runP (Zav true 9 (.sl i gi s 0 n c) fun v => Zaz (Zaq P (X P)) own id g op [v]) H := by
    unfold frzR Zbg
    simp [Zak.pureL, Zak, Zby]
  rw [e1]
  cases hg : getH H i gi with
  | none =>
    unfold frz1
    rw [Zav]
    simp [Zak, runP, hg]
  | some o => rfl
end
section
variable {α : Type} {f : α → List V} {sz : Nat} [Enc f sz]
theorem Yeg {n : Nat} (op : Aop) (i gi : Nat) (l : List α) (hn : n = l.length) (hg : getH H i gi = some (grO f l)) : frz1 P own id g op i gi sz n none H (some (grO f l)) = (opR P own id g op [enS f sz l .n] (H.set i (some (gi, frO f l)))).map fun q => (q.1, q.2.1, i :: q.2.2.1, if l.isEmpty then q.2.2.2 else i :: q.2.2.2) := by
  subst hn
  have hi : i < H.length ∧ H[i]? = some (some (gi, grO f l)) := by
    unfold getH at hg
    cases h : H[i]? with
    | none => rw [h] at hg; cases hg
    | some x =>
      rw [h] at hg
      refine ⟨(List.getElem?_eq_some_iff.mp h).1, ?_⟩
      cases x with
      | none => cases hg
      | some y =>
        obtain ⟨g', o⟩ := y
        simp only at hg
        split at hg
        · rename_i e; simp only [Option.some.injEq] at hg; rw [hg, e]
        · cases hg
  obtain ⟨hi, hx⟩ := hi
  have hc := Zbt (Enc.len (f := f) (sz := sz)) l
  have hle : 0 + l.length * sz ≤ (l.flatMap f).length := by rw [Zbn]; omega
  unfold frz1 opR
  simp only
  rw [Zav]
  simp only [Zak, Bool.false_eq_true, if_false, runP, hg]
  cases l with
  | nil =>
    have : H.set i (some (gi, frO f [])) = H := by
      apply List.ext_getElem?
      intro n
      rw [List.getElem?_set]
      split
      · rename_i e; subst e; rw [hx]; simp [hi]; rfl
      · rfl
    rw [this]
    simp only [grO, List.flatMap_nil, List.length_nil, Nat.zero_mul, Nat.zero_add, Nat.le_refl, if_true, Zbi, frzK, List.isEmpty_nil, enS]
    cases runP (Zaz (Zaq P (X P)) own id g op [V.nils]) H <;> rfl
  | cons a t =>
    simp only [grO, hle, if_true, Zdd, frzK, List.isEmpty_cons, Bool.false_eq_true, if_false, runP, hi, hc, frO, enS]
    cases runP (Zaz (Zaq P (X P)) own id g op [V.arr ((a :: t).flatMap f) sz (a :: t).length none]) (H.set i (some (gi, O.cells ((a :: t).flatMap f) .froz))) <;> rfl
end
section
variable {α : Type} {f : α → List V} {sz : Nat}
theorem Zuh {n : Nat} (op : Aop) (i gi : Nat) (c : Option Nat) (cs : List V) (kd : Kd) (hk : Zcs kd = true) (hp : Zak.pureL cs = true) (hn : n * sz = cs.length) (hg : getH H i gi = some (.cells cs kd)) : frz1 P own id g op i gi sz n c H (some (.cells cs kd)) = (opR P own id g op [.arr cs sz n c] (H.set i (some (gi, .cells cs .froz)))).map fun q => (q.1, q.2.1, i :: q.2.2.1, i :: q.2.2.2) := by
  have hi : i < H.length := by
    unfold getH at hg
    cases h : H[i]? with
    | none => rw [h] at hg; cases hg
    | some x => exact (List.getElem?_eq_some_iff.mp h).1
  have hc : cut cs 0 cs.length = cs := by simp [cut]
  unfold frz1 opR
  simp only
  rw [Zav]
  simp only [Zak, Bool.false_eq_true, if_false, runP, hg, hn, Nat.zero_add, Nat.le_refl, if_true, hp]
  cases kd <;> simp only [Zcs, Bool.false_eq_true] at hk <;> (
    simp only [frzK, if_true, runP, hi, hn, hc]
    cases runP (Zaz (Zaq P (X P)) own id g op [V.arr cs sz n c]) (H.set i (some (gi, O.cells cs .froz))) <;> rfl)
end
section
variable {α : Type} {f : α → List V} {sz : Nat} [Enc f sz]
theorem Ycq {n : Nat} (a b : V) (i gi : Nat) (l : List α) (hn : n = l.length) (ha : Zak a = true) (hb : Zak b = true) (hg : getH H i gi = some (grO f l)) : frzO H (some (.agg [a, b, .sl i gi sz 0 n none])) = some (.agg [a, b, enS f sz l .n], none) := by
  subst hn
  have key : ∀ (k : V → Plan) (d : Nat) (v : V), Zak v = true → Zav true d v k = k v := fun k d v hv => by
    cases d <;> (unfold Zav; rw [if_pos hv])
  have hs := Znf (sz := sz) (f := f) i gi l.length l rfl hg
  have hle : 0 + l.length * sz ≤ (l.flatMap f).length := by rw [Zbn]; omega
  have hc := Zbt (Enc.len (f := f) (sz := sz)) l
  have hi : i < H.length := by
    unfold getH at hg
    cases h : H[i]? with
    | none => rw [h] at hg; cases hg
    | some x => exact (List.getElem?_eq_some_iff.mp h).1
  unfold frzO Zdm
  simp only
  rw [Zav]
  simp only [Zak, Zak.pureL, ha, hb, Bool.true_and, Bool.and_true, Bool.false_eq_true, if_false, Zby, key _ _ _ ha, key _ _ _ hb]
  rw [Zav]
  simp only [Zak, Bool.false_eq_true, if_false, runP, hg, grO, hle, if_true, Zdd, frzK]
  cases l with
  | nil => simp [runP, enS]
  | cons x t => simp only [List.isEmpty_cons, Bool.false_eq_true, if_false, frzK, if_true, runP, hi, hc, enS]
theorem frzO_Mc {n : Nat} (a b : V) (i gi : Nat) (l : List α) (c : Option Nat) (kd : Kd) (hn : n = l.length) (hk : Zcs kd = true) (ha : Zak a = true) (hb : Zak b = true) (hg : getH H i gi = some (.cells (l.flatMap f) kd)) : frzO H (some (.agg [a, b, .sl i gi sz 0 n c])) = some (.agg [a, b, enS f sz l (.c c)], none) := by
  subst hn
  have key : ∀ (k : V → Plan) (d : Nat) (v : V), Zak v = true → Zav true d v k = k v := fun k d v hv => by
    cases d <;> (unfold Zav; rw [if_pos hv])
  have hle : 0 + l.length * sz ≤ (l.flatMap f).length := by rw [Zbn]; omega
  have hc := Zbt (Enc.len (f := f) (sz := sz)) l
  have hi : i < H.length := by
    unfold getH at hg
    cases h : H[i]? with
    | none => rw [h] at hg; cases hg
    | some x => exact (List.getElem?_eq_some_iff.mp h).1
  unfold frzO Zdm
  simp only
  rw [Zav]
  simp only [Zak, Zak.pureL, ha, hb, Bool.true_and, Bool.and_true, Bool.false_eq_true, if_false, Zby, key _ _ _ ha, key _ _ _ hb]
  rw [Zav]
  simp only [Zak, Bool.false_eq_true, if_false, runP, hg, hle, if_true, Zdd, frzK]
  cases kd <;> simp only [Zcs, Bool.false_eq_true] at hk <;> simp [runP, hi, hc, enS]
theorem Zgo {n : Nat} (d i gi : Nat) (c : Option Nat) (l : List α) (kd : Kd) (k : V → Plan) (hk : Zcs kd = true) (hn : n = l.length) (hg : getH H i gi = some (.cells (l.flatMap f) kd)) : runP (Zav true (d + 1) (.sl i gi sz 0 n c) k) H = (runP (k (enS f sz l (.c c))) (H.set i (some (gi, .cells (l.flatMap f) .froz)))).map fun q => (q.1, q.2.1, i :: q.2.2.1, i :: q.2.2.2) := by
  subst hn
  have hi : i < H.length := by
    unfold getH at hg
    cases h : H[i]? with
    | none => rw [h] at hg; cases hg
    | some x => exact (List.getElem?_eq_some_iff.mp h).1
  have hc := Zbt (Enc.len (f := f) (sz := sz)) l
  have hle : 0 + l.length * sz ≤ (l.flatMap f).length := by rw [Zbn]; omega
  rw [Zav]
  simp only [Zak, Bool.false_eq_true, if_false, runP, hg, hle, if_true, Zdd]
  cases kd <;> simp only [Zcs, Bool.false_eq_true] at hk <;> (
    simp only [frzK, if_true, runP, hi, hc, enS]
    cases runP (k (V.arr (l.flatMap f) sz l.length c)) (H.set i (some (gi, O.cells (l.flatMap f) .froz))) <;> rfl)
end
theorem Zcn (d : Nat) (v : V) (k : V → Plan) (h : Zak v = true) : Zav true d v k = k v := by
  cases d <;> (unfold Zav; rw [if_pos h])
section
variable {α β : Type} {f : α → List V} {sz : Nat} [Enc f sz] {f' : β → List V} {sz' : Nat} [Enc f' sz']
theorem Zyj {n n' : Nat} (i gi j gj : Nat) (c c' : Option Nat) (l : List α) (l' : List β) (kd kd' : Kd) (hij : i ≠ j) (hk : Zcs kd = true) (hk' : Zcs kd' = true) (hn : n = l.length) (hn' : n' = l'.length) (hg : getH H i gi = some (.cells (l.flatMap f) kd)) (hg' : getH H j gj = some (.cells (l'.flatMap f') kd')) :
    frzO H (some (.tup [.sl i gi sz 0 n c, .sl j gj sz' 0 n' c'])) = some (.tup [enS f sz l (.c c), enS f' sz' l' (.c c')], none) := by
  unfold frzO Zdm
  simp only
  rw [Zav]
  simp only [Zak, Zak.pureL, Bool.false_and, Bool.false_eq_true, if_false, Zby]
  rw [Zgo 7 i gi c l kd _ hk hn hg, Zgo 7 j gj c' l' kd' _ hk' hn' (by rw [Zal _ hij]; exact hg')]
  simp [runP]
theorem frzO_T2p {n' : Nat} (v : V) (j gj : Nat) (c' : Option Nat) (l' : List β) (kd' : Kd) (hv : Zak v = true) (hk' : Zcs kd' = true) (hn' : n' = l'.length) (hg' : getH H j gj = some (.cells (l'.flatMap f') kd')) :
    frzO H (some (.tup [v, .sl j gj sz' 0 n' c'])) = some (.tup [v, enS f' sz' l' (.c c')], none) := by
  unfold frzO Zdm
  simp only
  rw [Zav]
  simp only [Zak, Zak.pureL, hv, Bool.true_and, Bool.false_and, Bool.false_eq_true, if_false, Zby, Zcn _ _ _ hv]
  rw [Zgo 7 j gj c' l' kd' _ hk' hn' hg']
  simp [runP]
end
end Go.AM
