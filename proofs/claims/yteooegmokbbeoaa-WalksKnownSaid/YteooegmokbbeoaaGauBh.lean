/- Calls on the caller's heap; ranges over functions; the bodies of such loops as functions. -/
import Derived.Test.YteooegmokbbeoaaGauBe
set_option linter.unusedVariables false
set_option linter.unusedSimpArgs false
namespace Go.AM
variable {P : Zce} {own : List (Nat × Nat)} {id g : Nat} {H : Heap}
def finF (keep : Bool) (n : Nat) (res : List ARes) : Option (Ex × St) → Option (V × Heap × Nat)
  | some (.normal, s) | some (.ret, s) => (resV s.env s.H res).map fun v => (v, if keep then s.H else s.H.take n, s.γ)
  | _ => none
theorem Zzs (keep : Bool) (n : Nat) (res : List ARes) (e : List V) (H : Heap) (g : Nat) (rd : Option (Nat × Nat)) : finF keep n res (some (.ret, ⟨e, H, g, rd⟩)) = (resV e H res).map fun v => (v, if keep then H else H.take n, g) := rfl
theorem Zrg (keep : Bool) (n : Nat) (res : List ARes) (e : List V) (H : Heap) (g : Nat) (rd : Option (Nat × Nat)) : finF keep n res (some (.normal, ⟨e, H, g, rd⟩)) = (resV e H res).map fun v => (v, if keep then H else H.take n, g) := rfl
theorem Yaz {f : Nat} {fn : AFun} {args : List V} {γ : Nat} (hf : P f = some fn) (hl : args.length = fn.np) : Zdo P (X P) f args H γ = finF fn.keep H.length fn.res (X P fn.body ⟨env0 fn.nt args, H, γ, none⟩) := by
  unfold Zdo
  rw [hf]
  simp only [hl, if_true]
  cases hx : X P fn.body ⟨env0 fn.nt args, H, γ, none⟩ with
  | none => rfl
  | some q =>
    obtain ⟨ex, s⟩ := q
    cases ex <;> simp only [finF] <;> (cases resV s.env s.H fn.res <;> rfl)
theorem Zcu {f : Nat} {fn : AFun} {args : List V} (γ : Nat) (H : Heap) (hf : P f = some fn) (hl : args.length = fn.np) (hn : fn.np ≤ fn.nt) : ∃ e, e.length = fn.nt ∧ (∀ i, i < args.length → getE e i = getE args i) ∧ Zdo P (X P) f args H γ = finF fn.keep H.length fn.res (X P fn.body ⟨e, H, γ, none⟩) :=
  ⟨env0 fn.nt args, Zgc (by omega), fun i hi => Zid hi, Yaz hf hl⟩
theorem Yad (k : Nat) (a b args : List V) (H : Heap) (γ : Nat) : Zek P (X P) (.fn k a b) args H γ = Zdo P (X P) k (a ++ args ++ b) H γ := rfl
theorem Zzz (e : List V) (H : Heap) : resV e H [] = some (.tup []) := rfl
/-- A round of a range over a function that goes through. -/
theorem Zkz {args env e1 e2 : List V} {ps : List Nat} {keep : Bool} {asg body : AC} {p0 : Option AC} {H1 H2 : Heap} {γ g1 g2 : Nat} {r1 r2 : Option (Nat × Nat)} (hg : getH H id g = some (.loop .ready p0 keep env ps asg body)) (hl : args.length = ps.length)
    (h1 : X P asg ⟨putL env ps args, H, γ, some (id, g)⟩ = some (.normal, ⟨e1, H1, g1, r1⟩)) (hg1 : getH H1 id g = some (.loop .ready p0 keep env ps asg body))
    (h2 : X P body ⟨e1, H1.set id (some (g, .loop .busy p0 keep env ps asg body)), g1, some (id, g)⟩ = some (.normal, ⟨e2, H2, g2, r2⟩)) (hg2 : getH H2 id g = some (.loop .busy p0 keep env ps asg body)) :
    Zek P (X P) (.yld id g) args H γ = some (.bool true, if keep then H2.set id (some (g, .loop .ready none keep env ps asg body)) else (H2.set id (some (g, .loop .ready none keep env ps asg body))).take H.length, g2) := by
  unfold Zek
  simp only [hg, hl, if_true, h1, hg1, h2, hg2]
/-- A range over a function whose rounds all go through. -/
theorem Zwx {keep : Bool} {f : Opd} {ps : List Nat} {asg body : AC} {e : List V} {γ γ2 k : Nat} {a b : List V} {v : V} {H2 : Heap} (hf : Zbz e f = .fn k a b)
    (hc : Zdo P (X P) k (a ++ [.yld H.length γ] ++ b) (H ++ [some (γ, .loop .ready none keep e ps asg body)]) (γ + 1) = some (v, H2, γ2)) (hg : getH H2 H.length γ = some (.loop .ready none keep e ps asg body)) :
    X P (.rngf keep f ps asg body) ⟨e, H, γ, none⟩ = some (.normal, ⟨e, if keep then H2.set H.length none else H2.take H.length, γ2, none⟩) := by
  rw [X_eq]
  simp only [step, hf, rdOK, if_true, hc, hg]

/-! ### Heaps of which only some places are known -/
theorem Zbm (K : Heap) (x : Option (Nat × O)) (L : Heap) (g : Nat) : getH (K ++ x :: L) K.length g = getH (x :: L) 0 g := by
  simp [getH]
theorem getH_last1 (K : Heap) (x y : Option (Nat × O)) (L : Heap) (g : Nat) : getH (K ++ x :: y :: L) (K.length + 1) g = getH (y :: L) 0 g := by
  simp [getH]
theorem Zbv (K : Heap) (x y : Option (Nat × O)) (L : Heap) : (K ++ x :: L).set K.length y = K ++ y :: L := by
  simp [List.set_append_right]
theorem Zyi (K : Heap) (x y z : Option (Nat × O)) (L : Heap) : (K ++ x :: y :: L).set (K.length + 1) z = K ++ x :: z :: L := by
  simp [List.set_append_right]
theorem Zbr (K L : Heap) (j g : Nat) : getH (K ++ L) (K.length + j) g = getH L j g := by
  unfold getH
  rw [List.getElem?_append_right (by omega), show K.length + j - K.length = j by omega]
theorem Zdq (K L : Heap) (j : Nat) (y : Option (Nat × O)) : (K ++ L).set (K.length + j) y = K ++ L.set j y := by
  simp [List.set_append_right]
theorem Zbb {H : Heap} {i b : Nat} (x : Option (Nat × O)) (h : b ≤ i) : (H.set i x).take b = H.take b := by
  apply List.ext_getElem?
  intro n
  rw [List.getElem?_take, List.getElem?_take]
  split
  · rw [List.getElem?_set_ne (by omega)]
  · rfl
theorem Zbk {H K : Heap} {b : Nat} (h : b ≤ H.length) : (H ++ K).take b = H.take b := List.take_append_of_le_length h
theorem Ziu {H : Heap} {i b g : Nat} (h : i < b) : getH (H.take b) i g = getH H i g := by
  simp [getH, List.getElem?_take, h]
theorem Zlg {H H' : Heap} {b : Nat} (h : H'.drop b = H.drop b) {i g : Nat} (hi : b ≤ i) : getH H' i g = getH H i g := by
  have h1 : H'[i]? = H[i]? := by
    have := congrArg (fun l : Heap => l[i - b]?) h
    simp only [List.getElem?_drop] at this
    rwa [show b + (i - b) = i by omega] at this
  simp [getH, h1]
theorem Ybg (i gi sz off n : Nat) (c : Option Nat) (kd : IntKind) (z : Int) (h0 : 0 ≤ z) (h : z ≤ n) : slcV sz (.sl i gi sz off n c) (some (.int kd z)) none none = some (.sl i gi sz (off + z.toNat * sz) (n - z.toNat) (c.map (· - z.toNat))) := by
  have hz : z.toNat ≤ n := by omega
  simp only [slcV, if_true, cuts, bndO, bnd, h0, h, and_self]
end Go.AM

set_option linter.unusedVariables false
set_option linter.unusedSimpArgs false
namespace Go.AM
variable {P : Zce} {own : List (Nat × Nat)} {id g : Nat} {H : Heap}
/-! ### Open regions -/
def Ydw (dep : List Nat) (r : RS) : List (Nat × RS) → Bool
  | [] => true
  | (j, rj) :: l => (dep.contains j || Zim rj r) && Ydw dep r l
def dynP (dep : List Nat) (log : List Nat × List Nat) : List (Nat × (List Nat × List Nat)) → Prop
  | [] => True
  | (j, l) :: t => (dep.contains j = true ∨ ((∀ x, x ∈ l.2 → x ∉ log.1 ∧ x ∉ log.2) ∧ ∀ x, x ∈ log.2 → x ∉ l.1)) ∧ dynP dep log t
theorem dynP_nil (dep : List Nat) (log : List Nat × List Nat) : dynP dep log [] = True := rfl
theorem dynP_in {dep : List Nat} {log : List Nat × List Nat} {j : Nat} {l : List Nat × List Nat} {t : List (Nat × (List Nat × List Nat))} (h : dep.contains j = true) : dynP dep log ((j, l) :: t) = dynP dep log t := by simp only [dynP, h, true_or, true_and]
theorem dynP_out {dep : List Nat} {log : List Nat × List Nat} {j : Nat} {l : List Nat × List Nat} {t : List (Nat × (List Nat × List Nat))} (h : dep.contains j = false) : dynP dep log ((j, l) :: t) = (((∀ x, x ∈ l.2 → x ∉ log.1 ∧ x ∉ log.2) ∧ ∀ x, x ∈ log.2 → x ∉ l.1) ∧ dynP dep log t) := by simp only [dynP, h, Bool.false_eq_true, false_or]
theorem Zth (a b : List Nat) : disj a b = true ↔ ∀ x, x ∈ a → x ∉ b := by simp [disj]
theorem Zqy {dep : List Nat} {r : RS} {log : List Nat × List Nat} : ∀ {past : List (Nat × RS × (List Nat × List Nat))}, Ydw dep r (past.map fun x => (x.1, x.2.1)) = true → dynP dep log (past.map fun x => (x.1, x.2.2)) → Zcw dep r log past = true
  | [], _, _ => rfl
  | (j, rj, lj) :: l, hs, hd => by
    simp only [List.map_cons, Ydw, Bool.and_eq_true, Bool.or_eq_true] at hs
    simp only [List.map_cons, dynP] at hd
    obtain ⟨hs1, hs2⟩ := hs
    obtain ⟨hd1, hd2⟩ := hd
    simp only [Zcw, Bool.and_eq_true, Bool.or_eq_true]
    refine ⟨?_, Zqy hs2 hd2⟩
    rcases hs1 with h | h
    · exact .inl h
    · rcases hd1 with h' | ⟨h1, h2⟩
      · exact .inl h'
      · refine .inr ⟨h, ?_⟩
        simp only [Zkd, Bool.and_eq_true, Zth, List.mem_append, not_or]
        exact ⟨h1, h2⟩
def okD (dep : List Nat) (r : RS) (log : List Nat × List Nat) (past : List (Nat × RS × (List Nat × List Nat))) : Prop := Zcw dep r log past = true
theorem Yel (dep : List Nat) (r : RS) (log : List Nat × List Nat) : okD dep r log [] = True := by simp [okD, Zcw]
theorem okD_in {dep : List Nat} {r rj : RS} {log lj : List Nat × List Nat} {j : Nat} {t : List (Nat × RS × (List Nat × List Nat))} (h : dep.contains j = true) : okD dep r log ((j, rj, lj) :: t) = okD dep r log t := by
  simp only [okD, Zcw, h, Bool.true_or, Bool.true_and]
theorem Yft {dep : List Nat} {r rj : RS} {a b x y : List Nat} {j : Nat} {t : List (Nat × RS × (List Nat × List Nat))} (h : dep.contains j = false) (h2 : Zim rj r = true) : okD dep r (x, y) ((j, rj, (a, b)) :: t) = (((∀ z, z ∈ b → z ∉ x ∧ z ∉ y) ∧ ∀ z, z ∈ y → z ∉ a) ∧ okD dep r (x, y) t) := by
  simp only [okD, Zcw, h, h2, Bool.false_or, Bool.true_and, Bool.and_eq_true, Zkd, Zth, List.mem_append, not_or]
theorem Zbc {b γ i : Nat} {d : List Nat} {ds : List (List Nat)} {r : RS} {rs : List RS} {past : List (Nat × RS × (List Nat × List Nat))} {e : List V} {v : V} {H : Heap} {x y : List Nat} (h : okD d r (x, y) past) : Zgg P b γ i (d :: ds) r rs past e (some (v, H, x, y)) = RunD P b γ (i + 1) ds rs ((i, r, (x, y)) :: past) (putO e r.dst v) H := by
  have h' : Zcw ((d :: ds).headD []) r (x, y) past = true := h
  simp only [Zgg, h', if_true, List.tail_cons]
/-! ### A slice against nil; append to nil -/
theorem o_eqnN (ng : Bool) (x y : Opd) : opR P own id g (.eqn ng 0 x y) [.nils, .nils] H = some (Zgf ng true, H, [], []) := rfl
theorem o_eqnE {α : Type} {f : α → List V} {sz : Nat} (l : List α) (k : SC) (ng : Bool) (x y : Opd) (h : l ≠ []) : opR P own id g (.eqn ng 0 x y) [enS f sz l k, .nils] H = some (Zgf ng false, H, [], []) := by
  cases k with
  | c o => rfl
  | n => cases l with
    | nil => exact absurd rfl h
    | cons a t => rfl
/-- append of an element to a nil slice. -/
def appN (bytes id g sz j : Nat) (H : Heap) : Option O → OpR
  | some (.cells cs _) => if 0 + 1 * sz ≤ cs.length ∧ 1 * bytes ≤ Zcp ∧ 0 < bytes ∧ id < H.length then some (.sl id g sz 0 1 none, H.set id (some (g, .cells (cut cs 0 (1 * sz)) .loose)), [j], [id]) else none
  | _ => none
theorem Ycu (bytes sz : Nat) (x y : Opd) (j gj : Nat) (c : Option Nat) : opR P own id g (.app sz bytes x y) [.nils, .sl j gj sz 0 1 c] H = appN bytes id g sz j H (getH H j gj) := by
  show runP (appP sz bytes id g .nils (.sl j gj sz 0 1 c)) H = _
  simp only [appP, Zjk, if_true, runP]
  cases getH H j gj with
  | none => rfl
  | some o =>
    cases o <;> simp only [appN, runP] <;> (try rfl)
    rename_i cs kd
    by_cases h1 : 0 + 1 * sz ≤ cs.length
    · simp only [if_pos h1]
      by_cases h2 : 1 * bytes ≤ Zcp ∧ 0 < bytes
      · simp only [if_neg Nat.one_ne_zero, if_pos h2, runP]
        by_cases h3 : id < H.length
        · simp only [if_pos h3]; rw [if_pos ⟨h1, h2.1, h2.2, h3⟩]
        · simp only [if_neg h3]; rw [if_neg (fun h => h3 h.2.2.2)]
      · simp only [if_neg Nat.one_ne_zero, if_neg h2, runP]; rw [if_neg (fun h => h2 ⟨h.2.1, h.2.2.1⟩)]
    · simp only [if_neg h1, runP]; rw [if_neg (fun h => h1 h.1)]
theorem Zyg {α : Type} {f : α → List V} {sz : Nat} [Enc f sz] {cs : List V} (bytes j : Nat) (a : α) (kd : Kd) (hc : cs = f a) (hb : bytes ≤ 140737488355328) (h0 : 0 < bytes) (hi : id < H.length) : appN bytes id g sz j H (some (.cells cs kd)) = some (.sl id g sz 0 1 none, H.set id (some (g, grO f [a])), [j], [id]) := by
  subst hc
  have hl : (f a).length = sz := Enc.len a
  have hcc : cut (f a) 0 sz = f a := by simp only [cut, List.drop_zero]; exact List.take_of_length_le (by rw [hl]; exact Nat.le_refl _)
  have hb' : 1 * bytes ≤ Zcp ∧ 0 < bytes ∧ id < H.length := ⟨by unfold Zcp; omega, h0, hi⟩
  simp only [appN, hl, Nat.zero_add, Nat.one_mul, Nat.le_refl, true_and, hcc]
  rw [if_pos ⟨by have := hb'.1; omega, h0, hi⟩]
  simp [grO]

/-! ### Calls that give a slice of its own -/
def finT (res : List ARes) : Option (Ex × St) → Option (V × Option (List V × Kd))
  | some (.normal, s) | some (.ret, s) => match resV s.env s.H res with
    | some v => match v with
      | .sl i g sz off len cap => match getH s.H i g with
        | some (.cells cs kd) => match kd with
          | .fixed | .loose => match runP (Zbg true 9 cs fun cs' => .ret (.agg cs')) s.H with
            | some (.agg cs', H1, _) => if off + len * sz ≤ cs'.length ∧ warm H1 i g then some (.sl i g sz off len cap, some (cs', kd)) else none
            | _ => none
          | _ => Zdm v s.H
        | _ => none
      | _ => Zdm v s.H
    | none => none
  | _ => none
theorem Yap {f : Nat} {fn : AFun} {args : List V} (hf : P f = some fn) (hl : args.length = fn.np) : Zaq P (X P) true f args = finT fn.res (X P fn.body ⟨env0 fn.nt args, [], 0, none⟩) := by
  unfold Zaq
  rw [hf]
  simp only [hl, if_true]
  cases hx : X P fn.body ⟨env0 fn.nt args, [], 0, none⟩ with
  | none => rfl
  | some q =>
    obtain ⟨ex, s⟩ := q
    cases ex <;> simp only [finT] <;> rfl
theorem Zpl {f : Nat} {fn : AFun} {args : List V} (hf : P f = some fn) (hl : args.length = fn.np) (hn : fn.np ≤ fn.nt) : ∃ e, e.length = fn.nt ∧ (∀ i, i < args.length → getE e i = getE args i) ∧ Zaq P (X P) true f args = finT fn.res (X P fn.body ⟨e, [], 0, none⟩) :=
  ⟨env0 fn.nt args, Zgc (by omega), fun i hi => Zid hi, Yap hf hl⟩
def slT (H : Heap) (i g sz off len : Nat) (cap : Option Nat) : Option O → Option (V × Option (List V × Kd))
  | some (.cells cs kd) => match kd with
    | .fixed | .loose => if Zak.pureL cs = true ∧ off + len * sz ≤ cs.length then some (.sl i g sz off len cap, some (cs, kd)) else none
    | _ => none
  | _ => none
theorem Zws (res : List ARes) {e : List V} {H : Heap} {g : Nat} {rd : Option (Nat × Nat)} {v : V} (ex : Ex) (hex : ex = .ret ∨ ex = .normal) (h : resV e H res = some v) (hv : Zak v = true) : finT res (some (ex, ⟨e, H, g, rd⟩)) = some (v, none) := by
  have hz := Zpa H hv
  simp only [frzO] at hz
  have key : finT res (some (.ret, ⟨e, H, g, rd⟩)) = some (v, none) := by
    simp only [finT, h]
    cases v <;> first | exact hz | (simp [Zak] at hv)
  rcases hex with rfl | rfl
  · exact key
  · exact key
theorem Yex (res : List ARes) {e : List V} {H : Heap} {g : Nat} {rd : Option (Nat × Nat)} {i gi sz n : Nat} {c : Option Nat} {cs : List V} {kd : Kd} (ex : Ex) (hex : ex = .ret ∨ ex = .normal) (h : resV e H res = some (.sl i gi sz 0 n c)) (hg : getH H i gi = some (.cells cs kd)) (hk : Zcs kd = true) (hp : Zak.pureL cs = true) (hn : n * sz ≤ cs.length) : finT res (some (ex, ⟨e, H, g, rd⟩)) = some (.sl i gi sz 0 n c, some (cs, kd)) := by
  have hf : runP (Zbg true 9 cs fun cs' => .ret (.agg cs')) H = some (.agg cs, H, [], []) := by
    unfold Zbg; rw [if_pos hp]; rfl
  have hw : warm H i gi = true := by unfold warm; rw [hg]; cases kd <;> simp_all [Zcs]
  have key : finT res (some (.ret, ⟨e, H, g, rd⟩)) = some (.sl i gi sz 0 n c, some (cs, kd)) := by
    simp only [finT, h, hg]
    cases kd <;> simp only [Zcs, Bool.false_eq_true] at hk <;> simp [hf, hw, hn]
  rcases hex with rfl | rfl
  · exact key
  · exact key
def frsR (id g : Nat) (H : Heap) : Option (V × Option (List V × Kd)) → OpR
  | some (.sl _ _ sz off len cap, some (cs, kd)) => if id < H.length then some (.sl id g sz 0 len cap, H.set id (some (g, .cells (cs.drop off) kd)), [], [id]) else none
  | some (v, none) => some (v, H, [], [])
  | _ => none
theorem Zwz (x : Opd) (ys : List Opd) (f : Nat) (args : List V) (h : Zak.pureL args = true) : opR P own id g (.call .fresh x ys) (.fn f [] [] :: args) H = frsR id g H (Zaq P (X P) true f args) := by
  show runP (Zbg false 9 ([] ++ args ++ []) fun args' => match Zaq P (X P) true f args' with
      | some (.sl _ _ sz off len cap, some (cs, kd)) => if Zak.pureL ([] ++ args ++ []) || Zcz.flatL cs then
          .wr id (some (g, .cells (cs.drop off) kd)) (.ret (.sl id g sz 0 len cap)) else .no
      | some (v, none) => if Zak.pureL ([] ++ args ++ []) || Zcz v then .ret v else .no
      | _ => .no) H = _
  have h' : Zak.pureL ([] ++ args ++ []) = true := by simpa using h
  simp only [Zbg, List.nil_append, List.append_nil, h, if_true, Bool.true_or]
  generalize Zaq P (X P) true f args = q
  rcases q with _ | ⟨v, _ | ⟨cs, kd⟩⟩
  · rfl
  · cases v <;> rfl
  · cases v <;> first | rfl | (simp only [runP, frsR]; by_cases hi : id < H.length <;> simp [hi])
theorem Zvm (v : V) : frsR id g H (some (v, none)) = some (v, H, [], []) := by cases v <;> rfl
theorem Ydn (i gi sz n : Nat) (c : Option Nat) (cs : List V) (kd : Kd) (hi : id < H.length) : frsR id g H (some (.sl i gi sz 0 n c, some (cs, kd))) = some (.sl id g sz 0 n c, H.set id (some (g, .cells cs kd)), [], [id]) := by
  simp [frsR, hi]
/-! ### A call whose one operand is a growing slice that is frozen -/
noncomputable def frzF (P : Zce) (own : List (Nat × Nat)) (id g : Nat) (op : Aop) (fv : V) (i gi sz n : Nat) (c : Option Nat) (H : Heap) : Option O → OpR
  | some o => runP (Zav true 9 (.sl i gi sz 0 n c) fun v => Zaz (Zaq P (X P)) own id g op [fv, v]) H
  | none => none
theorem Zkm (op : Aop) (fv : V) (i gi s n : Nat) (c : Option Nat) (hv : Zak fv = true) : frzR P own id g op [fv, .sl i gi s 0 n c] H = frzF P own id g op fv i gi s n c H (getH H i gi) := by
  have e1 : frzR P own id g op [fv, .sl i gi s 0 n c] H = runP (Zav true 9 (.sl i gi s 0 n c) fun v => Zaz (Zaq P (X P)) own id g op [fv, v]) H := by
    unfold frzR Zbg
    simp only [Zak.pureL, Zak, hv, Bool.true_and, Bool.false_and, Bool.false_eq_true, if_false, Zby, Zcn _ _ _ hv]
  rw [e1]
  cases hg : getH H i gi with
  | none =>
    unfold frzF
    rw [Zav]
    simp [Zak, runP, hg]
  | some o => rfl
section
variable {α : Type} {f : α → List V} {sz : Nat} [Enc f sz]
theorem Zrf {n : Nat} (op : Aop) (fv : V) (i gi : Nat) (l : List α) (hl : l ≠ []) (hn : n = l.length) (hg : getH H i gi = some (grO f l)) : frzF P own id g op fv i gi sz n none H (some (grO f l)) = (opR P own id g op [fv, enS f sz l (.c none)] (H.set i (some (gi, .cells (l.flatMap f) .froz)))).map fun q => (q.1, q.2.1, i :: q.2.2.1, i :: q.2.2.2) := by
  have hg' : getH H i gi = some (.cells (l.flatMap f) .loose) := by
    rw [hg]; cases l with
    | nil => exact absurd rfl hl
    | cons a t => rfl
  unfold frzF
  simp only
  rw [Zgo 8 i gi none l .loose _ rfl hn hg']
  rfl
end
end Go.AM

set_option linter.unusedVariables false
set_option linter.unusedSimpArgs false
namespace Go.AM
variable {P : Zce} {own : List (Nat × Nat)} {id g : Nat} {H : Heap}
def isoF (rs : List Nat) (H : Heap) : Option (V × Option (List V × Kd)) → OpR
  | some (v, none) => if Zcz v then some (v, H, rs, []) else none
  | _ => none
noncomputable def isoP (P : Zce) (f : Nat) (v : V) (f2 off i : Nat) (H : Heap) : Option O → OpR
  | some (.cells cs kd) => if Zak.pureL cs = true ∧ (match kd with | .nilo => false | _ => true) = true then isoF [i] H (Zaq P (X P) false f [v, .fn f2 [] [.pf cs off]]) else none
  | _ => none
theorem Zdw (d : Nat) (v : V) (k : V → Plan) (h : Zak v = true) : Zav false d v k = k v := by
  cases d <;> (unfold Zav; rw [if_pos h])
theorem Zjv (d : Nat) : ∀ (cs : List V) (k : List V → Plan), Zak.pureL cs = true → Zby (Zav false d) cs k = k cs
  | [], k, _ => rfl
  | c :: cs, k, h => by
    simp only [Zax, Bool.and_eq_true] at h
    simp only [Zby, Zdw d c _ h.1]
    exact Zjv d cs _ h.2
theorem o_isoP (x : Opd) (ys : List Opd) (f : Nat) (v : V) (f2 i gi off : Nat) (cs : List V) (kd : Kd) (hv : Zak v = true) (hg : getH H i gi = some (.cells cs kd)) (hp : Zak.pureL cs = true) (hk : Zcs kd = true) :
    opR P own id g (.call .iso x ys) [.fn f [] [], v, .fn f2 [] [.ptr i gi off]] H = isoF [i] H (Zaq P (X P) false f [v, .fn f2 [] [.pf cs off]]) := by
  show runP (Zbg false 9 ([] ++ [v, .fn f2 [] [.ptr i gi off]] ++ []) fun args' => match Zaq P (X P) false f args' with
      | some (v', none) => if Zak.pureL ([] ++ [v, .fn f2 [] [.ptr i gi off]] ++ []) || Zcz v' then .ret v' else .no
      | _ => .no) H = _
  have hn : Zak.pureL [v, .fn f2 [] [.ptr i gi off]] = false := by simp [Zak.pureL, Zak, hv]
  simp only [List.nil_append, List.append_nil, Zbg, hn, Bool.false_eq_true, if_false, Zby, Zdw _ _ _ hv]
  rw [Zav]
  simp only [Zak, Zak.pureL, Bool.and_false, Bool.false_and, Bool.true_and, Bool.false_eq_true, if_false, Zby]
  rw [Zav]
  simp only [Zak, Bool.false_eq_true, if_false, runP, hg]
  cases kd <;> simp only [Zcs, Bool.false_eq_true] at hk <;> (
    simp only [Zjv _ _ _ hp]
    cases Zaq P (X P) false f [v, V.fn f2 [] [V.pf cs off]] with
    | none => rfl
    | some q =>
      obtain ⟨v', o⟩ := q
      cases o with
      | none => simp only [isoF, Bool.false_or]; by_cases hf : Zcz v' = true <;> simp [hf, runP]
      | some o => rfl)
theorem Ycx {n : Nat} (x : Opd) (ys : List Opd) (f : Nat) (v : V) (i gi sz : Nat) (c : Option Nat) (cs : List V) (kd : Kd) (hv : Zak v = true) (hg : getH H i gi = some (.cells cs kd)) (hp : Zak.pureL cs = true) (hk : Zcs kd = true) (hn : n * sz = cs.length) :
    opR P own id g (.call .iso x ys) [.fn f [] [], v, .sl i gi sz 0 n c] H = isoF [i] H (Zaq P (X P) false f [v, .arr cs sz n c]) := by
  show runP (Zbg false 9 ([] ++ [v, .sl i gi sz 0 n c] ++ []) fun args' => match Zaq P (X P) false f args' with
      | some (v', none) => if Zak.pureL ([] ++ [v, .sl i gi sz 0 n c] ++ []) || Zcz v' then .ret v' else .no
      | _ => .no) H = _
  have hn' : Zak.pureL [v, .sl i gi sz 0 n c] = false := by simp [Zak.pureL, Zak, hv]
  have hc : cut cs 0 cs.length = cs := by simp [cut]
  simp only [List.nil_append, List.append_nil, Zbg, hn', Bool.false_eq_true, if_false, Zby, Zdw _ _ _ hv]
  rw [Zav]
  simp only [Zak, Bool.false_eq_true, if_false, runP, hg, hn, Nat.zero_add, Nat.le_refl, if_true, hp]
  cases kd <;> simp only [Zcs, Bool.false_eq_true] at hk <;> (
    simp only [frzK, Bool.false_eq_true, if_false, hn, hc]
    cases Zaq P (X P) false f [v, V.arr cs sz n c] with
    | none => rfl
    | some q =>
      obtain ⟨v', o⟩ := q
      cases o with
      | none => simp only [isoF, Bool.false_or]; by_cases hf : Zcz v' = true <;> simp [hf, runP]
      | some o => rfl)
theorem Ybn {α : Type} {f : α → List V} {sz : Nat} [Enc f sz] {n : Nat} (v : V) (i gi : Nat) (c : Option Nat) (l : List α) (kd : Kd) (hv : Zak v = true) (hk : Zcs kd = true) (hn : n = l.length) (hg : getH H i gi = some (.cells (l.flatMap f) kd)) :
    frzO H (some (.tup [.sl i gi sz 0 n c, v])) = some (.tup [enS f sz l (.c c), v], none) := by
  unfold frzO Zdm
  simp only
  rw [Zav]
  simp only [Zak, Zak.pureL, hv, Bool.false_and, Bool.false_eq_true, if_false, Zby]
  rw [Zgo 7 i gi c l kd _ hk hn hg]
  simp [runP, Zcn _ _ _ hv]
theorem Zdf (rs : List Nat) (b : Bool) : isoF rs H (some (.bool b, none)) = some (.bool b, H, rs, []) := by simp [isoF, Zcz]
theorem Ziv (rs : List Nat) (k : IntKind) (n : Int) : isoF rs H (some (.int k n, none)) = some (.int k n, H, rs, []) := by simp [isoF, Zcz]
end Go.AM

set_option linter.unusedVariables false
set_option linter.unusedSimpArgs false
namespace Go.AM
variable {P : Zce} {own : List (Nat × Nat)} {id g : Nat} {H : Heap}
/-- What an operand is at this moment. -/
def Zie (H : Heap) (v : V) : Option (List Nat × V) :=
  if Zak v = true then some ([], v) else match v with
  | .sl i gi sz off len cap => match getH H i gi with
    | some (.cells cs kd) => if off + len * sz ≤ cs.length ∧ Zak.pureL cs = true then match kd with
        | .nilo => some ([i], .nils)
        | _ => some ([i], .arr (cut cs off (len * sz)) sz len cap)
      else none
    | _ => none
  | _ => none
def Zfm (H : Heap) : List V → Option (List Nat × List V)
  | [] => some ([], [])
  | v :: vs => match Zie H v with
    | some (r, v') => match Zfm H vs with
      | some (rs, vs') => some (r ++ rs, v' :: vs')
      | none => none
    | none => none
theorem Zkc {d : Nat} {v v' : V} {r : List Nat} (h : Zie H v = some (r, v')) (k : V → Plan) : runP (Zav false (d + 1) v k) H = (runP (k v') H).map fun q => (q.1, q.2.1, r ++ q.2.2.1, q.2.2.2) := by
  unfold Zie at h
  by_cases hp : Zak v = true
  · rw [if_pos hp] at h
    simp only [Option.some.injEq, Prod.mk.injEq] at h
    obtain ⟨rfl, rfl⟩ := h
    rw [Zdw _ _ _ hp]
    cases runP (k v) H <;> rfl
  · rw [if_neg hp] at h
    cases v <;> simp only at h <;> (try (cases h; done))
    rename_i i gi sz off len cap
    cases hg : getH H i gi with
    | none => rw [hg] at h; cases h
    | some o =>
      rw [hg] at h
      cases o <;> simp only at h <;> (try (cases h; done))
      rename_i cs kd
      by_cases hc : off + len * sz ≤ cs.length ∧ Zak.pureL cs = true
      · rw [if_pos hc] at h
        rw [Zav]
        simp only [Zak, Bool.false_eq_true, if_false, runP, hg, hc.1, hc.2, if_true]
        cases kd <;> simp only [Option.some.injEq, Prod.mk.injEq] at h <;> obtain ⟨rfl, rfl⟩ := h <;> simp only [frzK, Bool.false_eq_true, if_false] <;> (
          first
          | (cases runP (k .nils) H <;> rfl)
          | (cases runP (k (V.arr (cut cs off (len * sz)) sz len cap)) H <;> rfl))
      · rw [if_neg hc] at h; cases h
theorem Zhh {d : Nat} : ∀ {vs vs' : List V} {r : List Nat} (h : Zfm H vs = some (r, vs')) (k : List V → Plan), runP (Zby (Zav false (d + 1)) vs k) H = (runP (k vs') H).map fun q => (q.1, q.2.1, r ++ q.2.2.1, q.2.2.2)
  | [], vs', r, h, k => by
    simp only [Zfm, Option.some.injEq, Prod.mk.injEq] at h
    obtain ⟨rfl, rfl⟩ := h
    simp only [Zby]
    cases runP (k []) H <;> rfl
  | v :: vs, vs', r, h, k => by
    simp only [Zfm] at h
    cases hv : Zie H v with
    | none => rw [hv] at h; cases h
    | some q =>
      obtain ⟨r1, v1⟩ := q
      rw [hv] at h
      simp only at h
      cases hl : Zfm H vs with
      | none => rw [hl] at h; cases h
      | some q2 =>
        obtain ⟨r2, vs2⟩ := q2
        rw [hl] at h
        simp only [Option.some.injEq, Prod.mk.injEq] at h
        obtain ⟨rfl, rfl⟩ := h
        simp only [Zby]
        rw [Zkc hv, Zhh hl]
        cases runP (k (v1 :: vs2)) H <;> simp
noncomputable def isoG (P : Zce) (f : Nat) (H : Heap) : Option (List Nat × List V) → OpR
  | some (rs, args) => isoF rs H (Zaq P (X P) false f args)
  | none => none
theorem Zor (x : Opd) (ys : List Opd) (f : Nat) (args args' : List V) (rs : List Nat) (hs : Zfm H args = some (rs, args')) (hn : Zak.pureL args = false) : opR P own id g (.call .iso x ys) (.fn f [] [] :: args) H = isoF rs H (Zaq P (X P) false f args') := by
  show runP (Zbg false 9 ([] ++ args ++ []) fun args' => match Zaq P (X P) false f args' with
      | some (v', none) => if Zak.pureL ([] ++ args ++ []) || Zcz v' then .ret v' else .no
      | _ => .no) H = _
  simp only [List.nil_append, List.append_nil, Zbg, hn, Bool.false_eq_true, if_false]
  rw [Zhh (d := 8) hs]
  cases Zaq P (X P) false f args' with
  | none => rfl
  | some q =>
    obtain ⟨v', o⟩ := q
    cases o with
    | none => simp only [isoF, Bool.false_or]; by_cases hf : Zcz v' = true <;> simp [hf, runP]
    | some o => rfl
theorem Ydq (x : Opd) (ys : List Opd) (f : Nat) (args : List V) (hn : Zak.pureL args = false) (hs : (Zfm H args).isSome = true) : opR P own id g (.call .iso x ys) (.fn f [] [] :: args) H = isoG P f H (Zfm H args) := by
  cases h : Zfm H args with
  | none => rw [h] at hs; cases hs
  | some q => obtain ⟨rs, args'⟩ := q; exact Zor x ys f args args' rs h hn
theorem Zyb (f : Nat) (rs : List Nat) (args : List V) : isoG P f H (some (rs, args)) = isoF rs H (Zaq P (X P) false f args) := rfl
theorem Zde : Zfm H [] = some ([], []) := (rfl)
/-- Two results put together. -/
def Zzu (a : Option (List Nat × V)) (b : Option (List Nat × List V)) : Option (List Nat × List V) := match a, b with
  | some (r, v), some (rs, vs) => some (r ++ rs, v :: vs)
  | _, _ => none
theorem Zca (v : V) (vs : List V) : Zfm H (v :: vs) = Zzu (Zie H v) (Zfm H vs) := by
  simp only [Zfm, Zzu]
  cases Zie H v with
  | none => rfl
  | some q => cases Zfm H vs <;> rfl
theorem Zhk (r rs : List Nat) (v : V) (vs : List V) : Zzu (some (r, v)) (some (rs, vs)) = some (r ++ rs, v :: vs) := (rfl)
theorem Zdx {v : V} (h : Zak v = true) : Zie H v = some ([], v) := by unfold Zie; rw [if_pos h]
def Zzw (i sz off n : Nat) (c : Option Nat) : Option O → Option (List Nat × V)
  | some (.cells cs kd) => if off + n * sz ≤ cs.length ∧ Zak.pureL cs = true then match kd with
        | .nilo => some ([i], .nils)
        | _ => some ([i], .arr (cut cs off (n * sz)) sz n c)
      else none
  | _ => none
theorem Zfr (i gi sz off n : Nat) (c : Option Nat) : Zie H (.sl i gi sz off n c) = Zzw i sz off n c (getH H i gi) := by
  unfold Zie Zzw
  simp only [Zak, Bool.false_eq_true, if_false]
  try (cases getH H i gi with
  | none => rfl
  | some o => cases o <;> rfl)
theorem Zdg {i sz n : Nat} {c : Option Nat} {cs : List V} {kd : Kd} (hk : Zcs kd = true) (hn : n * sz = cs.length) (hp : Zak.pureL cs = true) : Zzw i sz 0 n c (some (.cells cs kd)) = some ([i], .arr cs sz n c) := by
  have hc : cut cs 0 cs.length = cs := by simp [cut]
  simp only [Zzw, hn, Nat.zero_add, Nat.le_refl, hp, and_self, if_true]
  cases kd <;> simp only [Zcs, Bool.false_eq_true] at hk <;> simp [hc]
/-! ### Many operands that are frozen -/
def frzA : Heap → List V → Option (List V × Heap × List Nat × List Nat)
  | H, [] => some ([], H, [], [])
  | H, v :: vs => if Zak v = true then (frzA H vs).map fun q => (v :: q.1, q.2) else match v with
    | .sl i gi sz off len cap => match getH H i gi with
      | some (.cells cs kd) => if off + len * sz ≤ cs.length ∧ Zak.pureL cs = true ∧ i < H.length ∧ Zcs kd = true then
          (frzA (H.set i (some (gi, .cells cs .froz))) vs).map fun q => (.arr (cut cs off (len * sz)) sz len cap :: q.1, q.2.1, i :: q.2.2.1, i :: q.2.2.2)
        else none
      | _ => none
    | _ => none
theorem Zit {d : Nat} : ∀ {vs : List V} {H H' : Heap} {vs' : List V} {r w : List Nat} (h : frzA H vs = some (vs', H', r, w)) (k : List V → Plan), runP (Zby (Zav true (d + 1)) vs k) H = (runP (k vs') H').map fun q => (q.1, q.2.1, r ++ q.2.2.1, w ++ q.2.2.2)
  | [], H, H', vs', r, w, h, k => by
    simp only [frzA, Option.some.injEq, Prod.mk.injEq] at h
    obtain ⟨rfl, rfl, rfl, rfl⟩ := h
    simp only [Zby]
    cases runP (k []) H <;> rfl
  | v :: vs, H, H', vs', r, w, h, k => by
    unfold frzA at h
    by_cases hp : Zak v = true
    · rw [if_pos hp] at h
      cases hl : frzA H vs with
      | none => rw [hl] at h; cases h
      | some q =>
        obtain ⟨a, b, c, e⟩ := q
        rw [hl] at h
        simp only [Option.map_some, Option.some.injEq, Prod.mk.injEq] at h
        obtain ⟨rfl, rfl, rfl, rfl⟩ := h
        simp only [Zby, Zcn _ _ _ hp]
        exact Zit hl _
    · rw [if_neg hp] at h
      cases v <;> simp only at h <;> (try (cases h; done))
      rename_i i gi sz off len cap
      cases hg : getH H i gi with
      | none => rw [hg] at h; cases h
      | some o =>
        rw [hg] at h
        cases o <;> simp only at h <;> (try (cases h; done))
        rename_i cs kd
        by_cases hc : off + len * sz ≤ cs.length ∧ Zak.pureL cs = true ∧ i < H.length ∧ Zcs kd = true
        · rw [if_pos hc] at h
          cases hl : frzA (H.set i (some (gi, .cells cs .froz))) vs with
          | none => rw [hl] at h; cases h
          | some q =>
            obtain ⟨a, b, c, e⟩ := q
            rw [hl] at h
            simp only [Option.map_some, Option.some.injEq, Prod.mk.injEq] at h
            obtain ⟨rfl, rfl, rfl, rfl⟩ := h
            obtain ⟨q1, q2, q3, q4⟩ := hc
            simp only [Zby]
            rw [Zav]
            simp only [Zak, Bool.false_eq_true, if_false, runP, hg, q1, q2, if_true]
            have ih := Zit (d := d) hl (fun cs' => k (V.arr (cut cs off (len * sz)) sz len cap :: cs'))
            cases kd <;> simp only [Zcs, Bool.false_eq_true] at q4 <;> (
              simp only [frzK, if_true, runP, q3]
              rw [ih]
              cases runP (k (V.arr (cut cs off (len * sz)) sz len cap :: a)) b <;> rfl)
        · rw [if_neg hc] at h; cases h
noncomputable def frzB (P : Zce) (own : List (Nat × Nat)) (id g : Nat) (op : Aop) : Option (List V × Heap × List Nat × List Nat) → OpR
  | some (vs, H, r, w) => (opR P own id g op vs H).map fun q => (q.1, q.2.1, r ++ q.2.2.1, w ++ q.2.2.2)
  | none => none
theorem Ztr (op : Aop) (a b c : V) (vs : List V) (hn : Zak.pureL (a :: b :: c :: vs) = false) (hs : (frzA H (a :: b :: c :: vs)).isSome = true) : frzR P own id g op (a :: b :: c :: vs) H = frzB P own id g op (frzA H (a :: b :: c :: vs)) := by
  cases h : frzA H (a :: b :: c :: vs) with
  | none => rw [h] at hs; cases hs
  | some q =>
    obtain ⟨vs', H', r, w⟩ := q
    unfold frzR Zbg
    rw [hn]
    simp only [Bool.false_eq_true, if_false]
    rw [Zit (d := 8) h]
    rfl
theorem Zig (op : Aop) (vs : List V) (r w : List Nat) : frzB P own id g op (some (vs, H, r, w)) = (opR P own id g op vs H).map fun q => (q.1, q.2.1, r ++ q.2.2.1, w ++ q.2.2.2) := rfl
def frzC (v : V) : Option (List V × Heap × List Nat × List Nat) → Option (List V × Heap × List Nat × List Nat)
  | some (vs, H, r, w) => some (v :: vs, H, r, w)
  | none => none
def frzS (i sz n : Nat) (c : Option Nat) (cs : List V) : Option (List V × Heap × List Nat × List Nat) → Option (List V × Heap × List Nat × List Nat)
  | some (vs, H, r, w) => some (.arr cs sz n c :: vs, H, i :: r, i :: w)
  | none => none
def frzG (H : Heap) (i gi sz n : Nat) (c : Option Nat) (vs : List V) : Option O → Option (List V × Heap × List Nat × List Nat)
  | some (.cells cs kd) => if 0 + n * sz ≤ cs.length ∧ Zak.pureL cs = true ∧ i < H.length ∧ Zcs kd = true then frzS i sz n c (cut cs 0 (n * sz)) (frzA (H.set i (some (gi, .cells cs .froz))) vs) else none
  | _ => none
theorem Zha : frzA H [] = some ([], H, [], []) := (rfl)
theorem Zdr {v : V} (vs : List V) (h : Zak v = true) : frzA H (v :: vs) = frzC v (frzA H vs) := by
  conv => lhs; unfold frzA
  simp only [if_pos h]
  cases frzA H vs <;> rfl
theorem Zop (v : V) (vs : List V) (r w : List Nat) : frzC v (some (vs, H, r, w)) = some (v :: vs, H, r, w) := (rfl)
theorem Zqf (i sz n : Nat) (c : Option Nat) (cs vs : List V) (r w : List Nat) : frzS i sz n c cs (some (vs, H, r, w)) = some (.arr cs sz n c :: vs, H, i :: r, i :: w) := (rfl)
theorem Zgw (i gi sz n : Nat) (c : Option Nat) (vs : List V) : frzA H (.sl i gi sz 0 n c :: vs) = frzG H i gi sz n c vs (getH H i gi) := by
  rw [frzA]
  simp only [Zak, Bool.false_eq_true, if_false]
  cases getH H i gi with
  | none => rfl
  | some o =>
    cases o with
    | cells cs kd =>
      simp only [frzG]
      split
      · cases frzA (H.set i (some (gi, .cells cs .froz))) vs <;> rfl
      · rfl
    | map es => rfl
    | loop => rfl
theorem Zfj {i gi sz n : Nat} {c : Option Nat} (vs : List V) {cs : List V} {kd : Kd} (hn : n * sz = cs.length) (hp : Zak.pureL cs = true) (hi : i < H.length) (hk : Zcs kd = true) : frzG H i gi sz n c vs (some (.cells cs kd)) = frzS i sz n c cs (frzA (H.set i (some (gi, .cells cs .froz))) vs) := by
  have hc : cut cs 0 cs.length = cs := by simp [cut]
  simp only [frzG, hn, Nat.zero_add, Nat.le_refl, hp, hi, hk, and_self, if_true, hc]
theorem Zft (i g sz off n : Nat) (c : Option Nat) : Zak (.sl i g sz off n c) = false := by simp [Zak]
end Go.AM
