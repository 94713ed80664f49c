/- One operation of a region. -/
import Derived.Test.YteooegmokbbeoaaGauI
set_option linter.unusedSimpArgs false
set_option linter.unusedVariables false
namespace Go.AM
open Go
variable {B : Base} {X : Cx} {H H' : Heap} {w w' : World} {P : Program} {fm : Nat → Nat} {AP : Zce} {E : AC → St → Option (Ex × St)}

theorem Zeu : ∀ {as bs : List Opd} {xs ys : List Operand}, Zcb fm as xs = true → Zcb fm bs ys = true → Zcb fm (as ++ bs) (xs ++ ys) = true
  | [], bs, [], ys, _, h => h
  | [], _, _ :: _, _, h, _ => by simp [Zcb] at h
  | _ :: _, _, [], _, h, _ => by simp [Zcb] at h
  | a :: as, bs, x :: xs, ys, h, h' => by
    simp only [Zcb, Bool.and_eq_true] at h
    simp only [List.cons_append, Zcb, Bool.and_eq_true]
    exact ⟨h.1, Zeu h.2 h'⟩
theorem Zoi {fs : Array Field} : ∀ {ps : List (Nat × Nat × Opd)} {qs : List (Nat × Operand)}, Zlk P fm fs ps qs = true → Zcb fm (ps.map (·.2.2)) (qs.map (·.2)) = true
  | [], [], _ => rfl
  | [], _ :: _, h => by simp [Zlk] at h
  | _ :: _, [], h => by simp [Zlk] at h
  | (off, n, x) :: ps, (i, y) :: qs, h => by
    simp only [Zlk, Bool.and_eq_true] at h
    simp only [List.map_cons, Zcb, Bool.and_eq_true]
    exact ⟨h.1.2, Zoi h.2⟩
theorem Zkp {sz : Nat} : ∀ {ps : List (Nat × Nat × Opd)} {qs : List (Nat × Operand)}, Zjr fm sz ps qs = true → Zcb fm (ps.map (·.2.2)) (qs.map (·.2)) = true
  | [], [], _ => rfl
  | [], _ :: _, h => by simp [Zjr] at h
  | _ :: _, [], h => by simp [Zjr] at h
  | (off, n, x) :: ps, (i, y) :: qs, h => by
    simp only [Zjr, Bool.and_eq_true] at h
    simp only [List.map_cons, Zcb, Bool.and_eq_true]
    exact ⟨h.1.2, Zkp h.2⟩
theorem Zio {x : Opd} {y : Operand} (h : chkO fm x y = true) : Zcb fm [x] [y] = true := by simp [Zcb, h]
theorem Zii {x x' : Opd} {y y' : Operand} (h : chkO fm x y = true) (h' : chkO fm x' y' = true) : Zcb fm [x, x'] [y, y'] = true := by simp [Zcb, h, h']
theorem Zlw {x x' x2 : Opd} {y y' y2 : Operand} (h : chkO fm x y = true) (h' : chkO fm x' y' = true) (h2 : chkO fm x2 y2 = true) : Zcb fm [x, x', x2] [y, y', y2] = true := by simp [Zcb, h, h', h2]

set_option maxHeartbeats 1000000 in
theorem Zsz {op : Aop} {oo : Op} (hk : Ziw P fm op oo = true) : Zcb fm op.opds (ords op oo) = true := by
  unfold Ziw at hk
  split at hk
  all_goals try (simp at hk; done)
  case h_6 z ps t qs =>
    simp only [Bool.and_eq_true] at hk
    obtain ⟨_, hk⟩ := hk
    show Zcb fm (ps.map (·.2.2)) (qs.toList.map (·.2)).toArray.toList = true
    split at hk
    · simp only [Bool.and_eq_true] at hk; exact Zoi hk.2
    · split at hk
      · exact Zkp hk
      · cases hk
    · cases hk
  case h_7 sz len z ps t len' qs =>
    simp only [Bool.and_eq_true] at hk
    obtain ⟨_, hk⟩ := hk
    show Zcb fm (ps.map (·.2.2)) (qs.toList.map (·.2)).toArray.toList = true
    split at hk
    · simp only [Bool.and_eq_true] at hk; exact Zkp hk.2
    · cases hk
  case h_16 f fs cs k fs' cs' =>
    simp only [Bool.and_eq_true] at hk
    show Zcb fm (fs ++ cs) (fs' ++ cs').toList = true
    rw [Array.toList_append]
    exact Zeu hk.1.2 hk.2
  case h_17 => rfl
  case h_20 sz x l hh m t x' l' h' m' =>
    simp only [Bool.and_eq_true] at hk
    show Zcb fm ([x] ++ l.toList ++ hh.toList ++ m.toList) (#[x'] ++ l'.toArray ++ h'.toArray ++ m'.toArray).toList = true
    have e : ∀ q : Option Operand, q.toArray.toList = q.toList := fun q => by cases q <;> rfl
    simp only [Array.toList_append, e]
    exact Zeu (Zeu (Zeu (Zio hk.1.1.1.1) hk.1.1.1.2) hk.1.1.2) hk.1.2
  case h_37 => simpa [Aop.opds, ords, Op.operands, Call.operands] using hk
  case h_38 => simp only [Bool.and_eq_true] at hk; exact Zii hk.1.1 hk.1.2
  case h_40 => rfl
  case h_30 => simp only [Bool.and_eq_true] at hk; simpa [Aop.opds, ords, Op.operands, Call.operands] using hk.1
  case h_31 => simp only [Bool.and_eq_true] at hk; simpa [Aop.opds, ords, Op.operands, Call.operands] using hk.1
  case h_33 => simp only [Bool.and_eq_true] at hk; simpa [Aop.opds, ords, Op.operands, Call.operands] using hk.1
  case h_34 => simpa [Aop.opds, ords, Op.operands, Call.operands] using hk
  case h_35 => simpa [Aop.opds, ords, Op.operands, Call.operands] using hk
  case h_36 => simp only [Bool.and_eq_true] at hk; simpa [Aop.opds, ords, Op.operands, Call.operands] using hk.1
  all_goals (try simp only [Bool.and_eq_true] at hk)
  all_goals first
    | rfl
    | exact hk
    | exact Zio hk
    | exact Zio hk.1
    | exact Zio hk.2
    | exact hk.1
    | exact Zii hk.1.2 hk.2
    | exact Zii hk.1.1 hk.1.2
    | exact Zii hk.1.1.2 hk.1.2
    | exact Zlw hk.1.1 hk.1.2 hk.2
    | exact Zlw hk.1.1.1 hk.1.1.2 hk.1.2

theorem Zgs {op : Aop} {c : Call} : Ziw P fm op (.defer c) = false := by cases op <;> first | rfl | (rename_i x; cases x <;> rfl)

/-- A function of the program is called. -/
theorem Zjy (hP : PR P fm AP) {f : Nat} {fn : AFun} (hf : AP f = some fn) (args : Array Value) : (callFunc (fm f) args).run P w = .ok (.enter (fm f) args) w := by
  obtain ⟨gf, code, h1, h2, h3, _⟩ := hP.fn f fn hf
  simp [callFunc, Sem.run_bind, run_program, h1, h2, h3]
theorem Zmt (hP : PR P fm AP) {f : Nat} {fn : AFun} (hf : AP f = some fn) {ρ : Operand → Value} {o : Oper} {g : Operand} {as : Array Operand} {ts : Array TypeId} {fs cs : Array Value} (hg : ρ g = .func (.func (fm f)) fs cs) :
    (execOp ρ { o with op := .call { callee := .value g, args := as, argTypes := ts } }).run P w = .ok (.enter (fm f) (fs ++ as.map ρ ++ cs)) w := by
  simp only [execOp, resolve, hg, Deferred.ofValue, invoke, Sem.run_bind, Sem.run_pure, Result.andThen_ok, Zjy hP hf]

theorem Zvo {Y : Cx} : ∀ {v : V} {x : Value}, RV X v x → Zcz v = true → RV Y v x := by
  intro v x h
  have fl : ∀ {l : List V} {i : Nat} {v : V}, Zcz.flatL l = true → l[i]? = some v → Zcz v = true := by
    intro l
    induction l with
    | nil => intro i v _ hv; simp at hv
    | cons a l ih =>
      intro i v h hv
      simp only [Zcz.flatL, Bool.and_eq_true] at h
      cases i with
      | zero => simp at hv; subst hv; exact h.1
      | succ i => exact ih h.2 (by simpa using hv)
  induction h with
  | int k n => intro _; exact .int k n
  | bool b => intro _; exact .bool b
  | str s => intro _; exact .str s
  | nilp => intro _; exact .nilp
  | nils => intro _; exact .nils
  | nilm => intro _; exact .nilm
  | nilf => intro _; exact .nilf
  | nili => intro _; exact .nili
  | agg cells xs hs h1 _ ih => intro h; exact .agg cells xs hs h1 (fun i v x hv hx => ih i v x hv hx (fl h hv))
  | tup vs xs hs _ ih => intro h; exact .tup vs xs hs (fun i v x hv hx => ih i v x hv hx (fl h hv))
  | _ => intro h; simp [Zcz] at h
theorem Zzh {l : List V} {i : Nat} {v : V} (h : Zcz.flatL l = true) (hv : l[i]? = some v) : Zcz v = true := by
  induction l generalizing i with
  | nil => simp at hv
  | cons a l ih =>
    simp only [Zcz.flatL, Bool.and_eq_true] at h
    cases i with
    | zero => simp at hv; subst hv; exact h.1
    | succ i => exact ih h.2 (by simpa using hv)

theorem RL.append {as bs : List V} {xs ys : List Value} (h : RL X as xs) (h' : RL X bs ys) : RL X (as ++ bs) (xs ++ ys) := by
  have e := h.1
  refine ⟨by simp [h.1, h'.1], fun i v x hv hx => ?_⟩
  rw [List.getElem?_append] at hv hx
  by_cases hlt : i < as.length
  · rw [if_pos hlt] at hv
    rw [if_pos (by omega)] at hx
    exact h.2 i v x hv hx
  · rw [if_neg hlt] at hv
    rw [if_neg (by omega), e] at hx
    exact h'.2 _ v x hv hx
/-- The caller's heap behind an isolated call. -/
theorem Zoo {C : AC → Code → Prop} {F0 G : Nat → Option Obj} (h : Rel C B X H w) (hm : Zox w w') (hG : ∀ b o, G b = some o → w.heap.size ≤ b ∧ w'.heap[b]? = some o) :
    X.le { X with F := over w X.F G } ∧ Rel C B { X with F := over w X.F G } H w' :=
  h.after hm.1 hm.2.1 hm.2.2.1 hm.2.2.2.1 hm.2.2.2.2 hG

set_option maxHeartbeats 1000000 in
theorem Zxm (hP : PR P fm AP) (hE : Zfa P fm E) {md : Mode} {fo : Opd} {ao : List Opd} {own : List (Nat × Nat)} {id g n : Nat} {o : Oper} {a : Act} {vals : List V} {v : V} {r ws : List Nat} {K : Act → World → Prop} {Q : Exit → Act → World → Prop}
    (hk : Ziw P fm (.call md fo ao) o.op = true) (h : Rel (CC P fm) B X H w) (hfm : X.fm = fm) (hf : Zgh X g n) (hn : 1 ≤ n) (hv : RL X vals ((ords (.call md fo ao) o.op).map a.eval))
    (hp : runP (Zaz (Zaq AP E) own id g (.call md fo ao) vals) H = some (v, H', r, ws)) (l : Option Nat) (m : Nat)
    (hK : ∀ Y x w', X.le Y → Rel (CC P fm) B Y H' w' → RV Y v x → Iss X Y g n → K (a.put o.dst x) w') : o.wpIn (FF l) m P a w K Q := by
  refine ⟨fun f _ => Zqm l f, ?_⟩
  rw [Oper.semAt_eq _ _ _ (fun c hc => by rw [hc, Zgs] at hk; cases hk)]
  generalize hoo : o.op = oo at hk hv
  unfold Ziw at hk
  split at hk
  all_goals try (first | (simp at hk; done) | (rename_i heq; cases heq; done) | (rename_i heq _; cases heq; done))
  rename_i md' fo' ao' gop as ts heq
  cases heq
  rw [Zld hoo]
  obtain ⟨fv, args, rfl, hfv, hargs⟩ := RL.cons (x := a.eval gop) (xs := as.toList.map a.eval) (by simpa [ords, Op.operands, Call.operands] using hv)
  unfold Zaz at hp
  simp only at hp
  -- the callee
  have parts : ∀ {f : Nat} {fst caps : List V}, fv = .fn f fst caps → ∃ fs cs : Array Value, a.eval gop = .func (.func (fm f)) fs cs ∧ RL X (fst ++ args ++ caps) (fs ++ as.map a.eval ++ cs).toList := by
    intro f fst caps hfe
    subst hfe
    generalize hgv : a.eval gop = gv at hfv
    cases hfv with
    | fn _ _ _ fs cs hfs hcs q1 q2 =>
    refine ⟨fs, cs, by rw [hfm], ?_⟩
    simp only [Array.toList_append, Array.toList_map]
    exact RL.append (RL.append ⟨by simpa using hfs, fun i v x hv hx => q1 i v x hv (by simpa using hx)⟩ hargs) ⟨by simpa using hcs, fun i v x hv hx => q2 i v x hv (by simpa using hx)⟩
  have callee : ∀ {f : Nat} {F0 : Nat → Option Obj} {args' : List V} {fr : Bool} {q : V × Option (List V × Kd)} {fs cs : Array Value}, a.eval gop = .func (.func (fm f)) fs cs → Zaq AP E fr f args' = some q → (∀ b o, F0 b = some o → w.heap[b]? = some o) →
      RL (bare X.fm F0) args' (fs ++ as.map a.eval ++ cs).toList →
      (∀ x w', IsoP fm w F0 q x w' → K (a.put o.dst x) w') → o.uponIn (FF l) m P a K Q ((execOp a.eval { o with op := .call { callee := .value gop, args := as, argTypes := ts } }).run P w) := by
    intro f F0 args' fr q fs cs hgv hq hF hR hK'
    have : ∃ fn, AP f = some fn := by
      unfold Zaq at hq
      split at hq
      · cases hq
      · rename_i fn hfn; exact ⟨fn, hfn⟩
    obtain ⟨fn, hfn⟩ := this
    rw [Zmt hP hfn hgv]
    rw [hfm] at hR
    refine ⟨fun hd => (by rw [Zkn] at hd; cases hd), ?_⟩
    refine (Zkt (w := w) hP hE hq hF hR l (m - 1)).mono fun e w' he => ?_
    obtain ⟨x, rfl, hx⟩ := he
    exact hK' x w' hx
  have plain : ∀ {al : List V} {F0 : Nat → Option Obj} {v0 : V} {x : Value} {w' : World}, (Zak.pureL al = true → F0 = X.F) → (Zak.pureL al || Zcz v0) = true → IsoP fm w F0 (v0, none) x w' →
      ∃ Y, X.le Y ∧ Rel (CC P fm) B Y H w' ∧ RV Y v0 x ∧ Iss X Y g n := by
    intro al F0 v0 x w' hF hpf hx
    obtain ⟨G, hM, hG, hpu, hrv⟩ := hx
    obtain ⟨k1, k2⟩ := Zoo (F0 := F0) h hM hG
    refine ⟨_, k1, k2, ?_, fun _ _ hi => .inl hi⟩
    cases hpa : Zak.pureL al with
    | true =>
      have hFe := hF hpa
      subst hFe
      exact RV.pure (X := bare fm (over w X.F G)) (Y := { X with F := over w X.F G }) hfm (fun b o _ hb => hb) hrv hpu
    | false =>
      rw [hpa] at hpf
      exact Zvo hrv (by simpa using hpf)
  split at hp
  · -- iso
    rename_i f fst caps
    obtain ⟨fs, cs0, hgv, hall⟩ := parts rfl
    obtain ⟨F0, args', r', ws', h1, h2, h3, h4, hp⟩ := Ztl h hall hp
    split at hp
    · rename_i v0 hq
      obtain ⟨hpf, hp⟩ := Zbw hp
      obtain ⟨rfl, rfl⟩ := Zau hp
      refine callee hgv hq h1 h3 fun x w' hx => ?_
      obtain ⟨Y, y1, y2, y3, y4⟩ := plain h2 hpf hx
      exact hK Y x w' y1 y2 y3 y4
    · exact (Zaw hp).elim
  · -- fresh
    rename_i f fst caps
    obtain ⟨fs, cs0, hgv, hall⟩ := parts rfl
    obtain ⟨F0, args', r', ws', h1, h2, h3, h4, hp⟩ := Ztl h hall hp
    split at hp
    · rename_i i0 g0 sz off len cap cs kd hq
      obtain ⟨hpf, hp⟩ := Zbw hp
      obtain ⟨ws1, hid, hp, _⟩ := Zcj hp
      obtain ⟨rfl, rfl⟩ := Zau hp
      refine callee hgv hq h1 h3 fun x w' hx => ?_
      obtain ⟨G, b, base, a0, c', c, t, rfl, hM, hG, hGb, hbw, hb, hle, hcs, hpu, hkd, hsl, hz, hlc, hcc, haa, hfit⟩ := hx
      obtain ⟨k1, k2⟩ := Zoo (F0 := F0) h hM hG
      have hcX : Zcv { X with F := over w X.F G } (cs.drop off) (fun j => c[base + off + j]?) := fun j u hu => by
        rw [List.getElem?_drop] at hu
        obtain ⟨q1, y, q2, q3⟩ := hcs _ u hu
        refine ⟨q1, y, ?_, ?_⟩
        · rw [← q2]; show c[base + off + j]? = c[base + (off + j)]?; rw [Nat.add_assoc]
        · cases hpa : Zak.pureL (fst ++ args ++ caps) with
          | true =>
            have hFe := h2 hpa
            subst hFe
            exact RV.pure (X := bare fm (over w X.F G)) (Y := { X with F := over w X.F G }) hfm (fun b o _ hb => hb) q3 (Zcd hpu hu)
          | false =>
            rw [hpa] at hpf
            exact Zvo q3 (Zzh (by simpa using hpf) hu)
      have hkn : kd ≠ .nilo ∧ kd ≠ .froz := by rcases hkd with rfl | rfl <;> simp
      have hFb : over w X.F G b = none := by unfold over; rw [if_neg (by omega)]; exact hGb
      obtain ⟨p1, p2⟩ := k2.putCells (id := id) (g := g) (b := b) (base := base + off) (cs := cs.drop off) (kd := kd) (c := c) (t := t) (w' := w') hid (.inl (hf.ne hn)) hb (fun k _ _ => rfl)
        ⟨hFb, Nat.le_trans h.size hbw, fun id' g' o' n' k' _ hl hm => by
          obtain ⟨ob, hob⟩ := (h.obj id' g' o' hl).2.block hm
          have := (Array.getElem?_eq_some_iff.1 hob).1
          omega⟩ (Nat.le_refl _) rfl rfl rfl hkn (by simp; omega) hcX
      refine hK _ _ w' (k1.trans p1) p2 ?_ (fun i k hk => ?_)
      · refine .sl id g sz 0 len cap a0 c' (.inr ⟨rfl, rfl⟩) hz hlc hcc haa fun q hq => ?_
        have hq' : lvH (H.set id (some (g, .cells (cs.drop off) kd))) id g = some (.cells q) := hq
        obtain ⟨o', ho', hk'⟩ := Zbl.1 hq'
        rw [Zeh hid] at ho'
        simp only [if_true, Option.some.injEq, Prod.mk.injEq] at ho'
        obtain ⟨_, rfl⟩ := ho'
        simp only [lkO, LK.cells.injEq, List.length_drop] at hk'
        subst hk'
        unfold SlR at hsl ⊢
        simp only [Cx.put, if_true]
        rcases hsl with ⟨rfl, s1, s2, s3, s4⟩ | ⟨s0, rfl, rfl, s4⟩
        · left
          exact ⟨by simp, by omega, by omega, fun c hc' => by have := s3 c hc'; omega, fun hc' => by have := s4 hc'; omega⟩
        · right
          exact ⟨s0, rfl, rfl, fun hc' => by have := s4 hc'; omega⟩
      · rcases Zib (X := { X with F := over w X.F G }) hn i k hk with hk | hk
        · exact .inl hk
        · exact .inr hk
    · rename_i v0 hq
      obtain ⟨hpf, hp⟩ := Zbw hp
      obtain ⟨rfl, rfl⟩ := Zau hp
      refine callee hgv hq h1 h3 fun x w' hx => ?_
      obtain ⟨Y, y1, y2, y3, y4⟩ := plain h2 hpf hx
      exact hK Y x w' y1 y2 y3 y4
    · exact (Zaw hp).elim
  · exact (Zaw hp).elim
end Go.AM

set_option linter.unusedSimpArgs false
set_option linter.unusedVariables false
namespace Go.AM
open Go
variable {B : Base} {X : Cx} {H H' : Heap} {w w' : World} {P : Program} {fm : Nat → Nat} {AP : Zce} {E : AC → St → Option (Ex × St)} {ops : Array Oper}

theorem Zxi (own : List (Nat × Nat)) (m : Mode) (f : Opd) (as : List Opd) : 1 ≤ room own (.call m f as) := by simp [room]

/-- An operation that is no raw call. -/
theorem Yam (hP : PR P fm AP) (hE : Zfa P fm E) {r : RS} {o : Oper} {a : Act} {e : List V} {base γ : Nat} {v : V} {rr ws : List Nat} {K : Act → World → Prop} {Q : Exit → Act → World → Prop} (hk : Ziw P fm r.op o.op = true)
    (h : Rel (CC P fm) B X H w) (hfm : X.fm = fm) (he : EnvR X e a.tmps) (hf : Zgh X (γ + r.at_) (room r.own r.op)) (hp : runP (Zdc (Zaq AP E) r base γ e) H = some (v, H', rr, ws)) (l : Option Nat) (m : Nat)
    (hK : ∀ Y x w', X.le Y → Rel (CC P fm) B Y H' w' → RV Y v x → Iss X Y (γ + r.at_) (room r.own r.op) → K (a.put o.dst x) w') : o.wpIn (FF l) m P a w K Q := by
  have hvals : RL X (r.op.opds.map (Zbz e)) ((ords r.op o.op).map a.eval) := Zqt he hfm (Zsz hk)
  -- with the operands at hand
  have main : ∀ (Z : Cx) (H1 : Heap) (vals : List V) (r' ws' : List Nat), X.le Z → Z.iss = X.iss → Rel (CC P fm) B Z H1 w → RL Z vals ((ords r.op o.op).map a.eval) → runP (Zaz (Zaq AP E) r.own (base + r.at_) (γ + r.at_) r.op vals) H1 = some (v, H', r', ws') →
      o.wpIn (FF l) m P a w K Q := by
    intro Z H1 vals r' ws' hle hiss hrel hv hp
    have hf' : Zgh Z (γ + r.at_) (room r.own r.op) := fun i k hi => hf i k (by rw [← hiss]; exact hi)
    have hIss : ∀ Y, Iss Z Y (γ + r.at_) (room r.own r.op) → Iss X Y (γ + r.at_) (room r.own r.op) := fun Y hY i k hi => by rw [← hiss]; exact hY i k hi
    by_cases hc : ∃ m f as, r.op = .call m f as
    · obtain ⟨md, fo, ao, hop⟩ := hc
      rw [hop] at hk hv hp hf' hIss
      exact Zxm hP hE hk hrel (by rw [hle.fm]; exact hfm) hf' (Zxi _ _ _ _) hv hp l m fun Y x w' y1 y2 y3 y4 => hK Y x w' (hle.trans y1) y2 y3 (by rw [hop]; exact hIss Y y4)
    · obtain ⟨Y, nx, w', s1, s2, s3, s4, s5⟩ := op_sim (ρ := a.eval) hk (fun md fo ao hop => hc ⟨md, fo, ao, hop⟩) hrel (by rw [hle.fm]; exact hfm) hf' (Nat.le_refl _) hv hp
      refine ⟨fun f _ => Zqm l f, ?_⟩
      rw [Oper.semAt_eq _ _ _ (fun c hc => by rw [hc, Zgs] at hk; cases hk), s1]
      rcases s5 with ⟨rfl, rfl⟩ | ⟨x, rfl, hx⟩
      · exact hK Y undef w' (hle.trans s2) s3 (.junk _) (hIss Y s4)
      · exact hK Y x w' (hle.trans s2) s3 hx (hIss Y s4)
  unfold Zdc at hp
  simp only at hp
  split at hp
  · obtain ⟨Z, H1, cs', r', ws', z1, z2, z3, z4, z5, z6⟩ := Zrp h hvals hp
    exact main Z H1 cs' r' ws' z1.le z1.iss z3 z4 z6
  · exact main X H _ rr ws (Cx.le.refl X) rfl h hvals hp

theorem Ycz : RV X (.tup []) undef := .tup [] #[] rfl (fun i v x hv _ => by simp at hv)
/-- A guard. -/
theorem Zic {e : List V} {a : Act} {g : Option (Nat × Bool)} {o : Oper} {b : Bool} (he : EnvR X e a.tmps) (hg : grdB ops g o.guard = true) (h : Zep e g = some b) : Region.wanted o (yielded ops a.tmps) = b := by
  unfold Region.wanted
  cases g with
  | none =>
    cases ho : o.guard with
    | none => simp [Zep] at h; simp [h]
    | some q => rw [ho] at hg; simp [grdB] at hg
  | some p =>
    obtain ⟨t, want⟩ := p
    cases ho : o.guard with
    | none => rw [ho] at hg; simp [grdB] at hg
    | some q =>
      obtain ⟨j, want'⟩ := q
      rw [ho] at hg
      simp only [grdB, Bool.and_eq_true, beq_iff_eq] at hg
      obtain ⟨rfl, hg⟩ := hg
      split at hg
      · rename_i oj hj
        simp only [beq_iff_eq] at hg
        simp only [Zep] at h
        split at h
        · rename_i bb hbb
          simp only [Option.some.injEq] at h
          have hr := he.2 t
          rw [hbb] at hr
          have hlt : t < e.length := by
            rw [Zik] at hbb
            rcases Nat.lt_or_ge t e.length with hlt | hge
            · exact hlt
            · rw [List.getElem?_eq_none hge] at hbb; simp at hbb
          have ht : a.tmps[t]? = some (a.tmps.getD t undef) := by
            have : t < a.tmps.size := by rw [he.1]; exact hlt
            simp [Array.getD_eq_getD_getElem?, this]
          generalize a.tmps.getD t undef = y at hr ht
          cases hr
          have : yielded ops a.tmps j = some bb := by simp [yielded, hj, hg, ht]
          simp only [this]
          rw [← h]
          cases bb <;> cases want <;> rfl
        · rename_i hbb
          simp only [Option.some.injEq] at h
          have hr := he.2 t
          rw [hbb] at hr
          have : yielded ops a.tmps j = none := by
            simp only [yielded, hj, hg, Option.bind_some]
            cases ht : a.tmps[t]? with
            | none => rfl
            | some y =>
              rw [Array.getD_eq_getD_getElem?, ht] at hr
              simp only [Option.getD_some] at hr
              cases hr
              rfl
          simp only [this]
          rw [← h]; rfl
        · cases h
      · cases hg

theorem Zmm (hP : PR P fm AP) (hE : Zfa P fm E) {r : RS} {o : Oper} {a : Act} {e e' : List V} {base γ i : Nat} {rr ws : List Nat} {K : Act → World → Prop} {Q : Exit → Act → World → Prop} (ho : ops[i]? = some o) (hd : r.dst = o.dst) (hk : Ziw P fm r.op o.op = true)
    (hg : grdB ops r.grd o.guard = true) (h : Rel (CC P fm) B X H w) (hfm : X.fm = fm) (he : EnvR X e a.tmps) (hf : Zgh X (γ + r.at_) (room r.own r.op)) (hs : Zda (Zaq AP E) r base γ e H = some (e', H', rr, ws)) (l : Option Nat) (m : Nat)
    (hK : ∀ Y a' w', X.le Y → Rel (CC P fm) B Y H' w' → EnvR Y e' a'.tmps → a'.defers = a.defers → Iss X Y (γ + r.at_) (room r.own r.op) → K a' w') : wpOpIn (FF l) m P ops Q i K a w := by
  unfold wpOpIn
  simp only [ho]
  unfold Zda at hs
  split at hs
  · cases hs
  · rename_i hgf
    rw [Zic he hg hgf]
    simp only [Option.some.injEq, Prod.mk.injEq] at hs
    obtain ⟨rfl, rfl, _, _⟩ := hs
    refine ⟨fun f _ => Zqm l f, hK X _ w (Cx.le.refl X) h (by rw [hd]; exact he.put Ycz) (Zgx _ _ _) fun _ _ hi => .inl hi⟩
  · rename_i hgf
    rw [Zic he hg hgf]
    split at hs
    · cases hs
    · split at hs
      · rename_i v H1 r1 w1 hrun
        simp only [Option.some.injEq, Prod.mk.injEq] at hs
        obtain ⟨rfl, rfl, _, _⟩ := hs
        exact Yam hP hE hk h hfm he hf hrun l m fun Y x w' y1 y2 y3 y4 => hK Y _ w' y1 y2 (by rw [hd]; exact (he.weak y1).put y3) (Zgx _ _ _) y4
      · cases hs
end Go.AM

set_option linter.unusedSimpArgs false
set_option linter.unusedVariables false
namespace Go.AM
open Go
variable {B : Base} {X : Cx} {H H' : Heap} {w w' : World} {P : Program} {fm : Nat → Nat} {AP : Zce} {E : AC → St → Option (Ex × St)} {ops : Array Oper}

theorem RL.weak {Y : Cx} {as : List V} {xs : List Value} (h : RL X as xs) (hle : X.le Y) : RL Y as xs := ⟨h.1, fun i v x hv hx => (h.2 i v x hv hx).weak hle⟩

theorem EnvR.putTmps : ∀ {ps : List Nat} {vs : List V} {xs : List Value} {e : List V} {tmps : Array Value}, EnvR X e tmps → RL X vs xs → vs.length = ps.length →
    EnvR X (putL e ps vs) ((ps.zip xs).foldl (fun tmps (p : Nat × Value) => tmps.setIfInBounds p.1 p.2) tmps)
  | [], [], xs, e, tmps, h, hv, _ => by
    have : xs = [] := List.eq_nil_of_length_eq_zero hv.1
    subst this; exact h
  | [], _ :: _, _, _, _, _, _, hl => by simp at hl
  | _ :: _, [], _, _, _, _, _, hl => by simp at hl
  | p :: ps, v :: vs, xs, e, tmps, h, hv, hl => by
    cases xs with
    | nil => have := hv.1; simp at this
    | cons x xs =>
      have h1 : RV X v x := hv.2 0 v x rfl rfl
      have h2 : RL X vs xs := ⟨by have := hv.1; simpa using this, fun i v y hv' hy => hv.2 (i + 1) v y (by simpa using hv') (by simpa using hy)⟩
      have h3 : EnvR X (putE e p v) (tmps.setIfInBounds p x) := EnvR.put (a := ⟨tmps, []⟩) (d := some p) h h1
      simp only [List.zip_cons_cons, List.foldl_cons, putL]
      exact EnvR.putTmps h3 h2 (by simpa using hl)

def stOf : LSt → LoopState
  | .ready => .ready
  | .busy => .busy
  | .done => .done
  | .exh => .exhausted
def Zlb : Option AC → Option (Option Code)
  | none => some none
  | some .ret => some (some .ret)
  | some (.exit i) => some (some (.exit i))
  | _ => none

/-- A live loop's record. -/
theorem RO.loopR {C : AC → Code → Prop} {id : Nat} {st : LSt} {pend : Option AC} {keep : Bool} {env : List V} {ps : List Nat} {asg body : AC} {b n m : Nat} (h : RO C X w id (.loop st pend keep env ps asg body)) (hm : X.μ id = some (b, n, m)) :
    ∃ r : Loop, X.F b = none ∧ w.heap[b]? = some (.loop r) ∧ r.params.toList = ps ∧ C asg r.assign ∧ C body r.body ∧ EnvR X env r.tmps ∧ r.state = stOf st ∧ Zlb pend = some r.pending := by
  obtain ⟨b', n', m', r, hm', hF, hb, hp, h1, h2, he, hst, hpd⟩ := h
  rw [hm] at hm'; cases hm'
  refine ⟨r, hF, hb, hp, h1, h2, he, by cases st <;> exact hst, ?_⟩
  split at hpd
  · rw [hpd]; rfl
  · rw [hpd]; rfl
  · rw [hpd]; rfl
  · exact hpd.elim

/-- A loop's record goes on. -/
theorem Rel.loopSet {C : AC → Code → Prop} {id g b n m : Nat} {st st' : LSt} {pend pend' : Option AC} {keep : Bool} {env : List V} {ps : List Nat} {asg body : AC} {r r' : Loop} (h : Rel C B X H w) (hl : H[id]? = some (some (g, .loop st pend keep env ps asg body)))
    (hm : X.μ id = some (b, n, m)) (hb : w.heap[b]? = some (.loop r)) (e1 : r'.params = r.params) (e2 : r'.assign = r.assign) (e3 : r'.body = r.body) (e4 : r'.tmps = r.tmps) (e5 : r'.state = stOf st') (e6 : Zlb pend' = some r'.pending) :
    ∃ Y, X.le Y ∧ Rel C B Y (H.set id (some (g, .loop st' pend' keep env ps asg body))) (w.putObj b (.loop r')) ∧ ∀ i k, Y.iss i k → X.iss i k := by
  have hid : id < H.length := (List.getElem?_eq_some_iff.1 hl).1
  have hbl : b < w.heap.size := (Array.getElem?_eq_some_iff.1 hb).1
  obtain ⟨r0, hF, hb0, hp, hc1, hc2, he, _, _⟩ := (h.obj _ _ _ hl).2.loopR hm
  rw [hb] at hb0; cases hb0
  obtain ⟨h1, h2⟩ := h.set (g := g) (o := .loop st' pend' keep env ps asg body) (m := some (b, n, m)) (w' := w.putObj b (.loop r')) hid (.inr ⟨hm, _, hl, rfl⟩)
    (fun k hk _ => World.putObj_heap_other (fun e => hk n m (by rw [e])))
    (fun k n' m' e => by cases e; exact ⟨hF, h.own id g _ b n m hl hm hF, fun id' g' o' n' k' hne hl' hm' => hne (h.inj id' id g' g o' _ b n' k' n m hl' hl hm' hm hF)⟩)
    (by simp [World.putObj]) rfl rfl rfl
    (fun hle => ⟨b, n, m, r', by simp [Cx.put], hF, World.putObj_heap_same hbl, by rw [e1]; exact hp, by rw [e2]; exact hc1, by rw [e3]; exact hc2, by rw [e4]; exact he.weak hle, by cases st' <;> exact e5, by
      cases pend' with
      | none => simp [Zlb] at e6; exact e6.symm
      | some c => cases c <;> simp [Zlb] at e6 <;> exact e6.symm⟩)
  refine ⟨_, h1, h2, fun i k hk => ?_⟩
  rcases hk with hk | ⟨rfl, rfl⟩
  · exact hk
  · exact (h.obj _ _ _ hl).1

theorem Zpc {id g b : Nat} {C : AC → Code → Prop} {st : LSt} {pend : Option AC} {keep : Bool} {env : List V} {ps : List Nat} {asg body : AC} (h : Rel C B X H w) (hy : RV X (.yld id g) (.func (.yield b) #[] #[])) (hl : H[id]? = some (some (g, .loop st pend keep env ps asg body))) :
    ∃ n m, X.μ id = some (b, n, m) := by
  cases hy with
  | yld _ _ _ hg hl' => exact hl' (by rw [h.lv]; exact Zbl.2 ⟨_, hl, rfl⟩)

theorem Zyp {ex : Ex} {e : Exit} (h : exR ex e) : (ex = .normal ∧ e = .normal) ∨ (ex = .ret ∧ e = .ret) ∨ (∃ i, ex = .exit i ∧ e = .exit i) := by
  cases ex <;> cases e <;> simp [exR] at h
  · exact .inl ⟨rfl, rfl⟩
  · subst h; exact .inr (.inr ⟨_, rfl, rfl⟩)
  · exact .inr (.inl ⟨rfl, rfl⟩)

set_option maxHeartbeats 1000000 in
theorem Zrw (hP : PR P fm AP) (hE : Zfa P fm E) {fo : Opd} {ao : List Opd} {o : Oper} {a : Act} {e : List V} {γ γ' : Nat} {v : V} {K : Act → World → Prop} {Q : Exit → Act → World → Prop} (hk : Ziw P fm (.call .raw fo ao) o.op = true)
    (h : Rel (CC P fm) B X H w) (hfm : X.fm = fm) (he : EnvR X e a.tmps) (hi : ∀ i k, X.iss i k → k < γ) (hc : Zek AP E (Zbz e fo) (ao.map (Zbz e)) H γ = some (v, H', γ')) (l : Option Nat) (m : Nat)
    (hK : ∀ Y x w', X.le Y → Rel (CC P fm) B Y H' w' → RV Y v x → (∀ i k, Y.iss i k → k < γ') → (∀ i k, Y.iss i k → X.iss i k ∨ γ ≤ k) → γ ≤ γ' → K (a.put o.dst x) w') : o.wpIn (FF l) m P a w K Q := by
  have hvals : RL X ((fo :: ao).map (Zbz e)) ((ords (.call .raw fo ao) o.op).map a.eval) := Zqt he hfm (Zsz hk)
  refine ⟨fun f _ => Zqm l f, ?_⟩
  rw [Oper.semAt_eq _ _ _ (fun c hc => by rw [hc, Zgs] at hk; cases hk)]
  generalize hoo : o.op = oo at hk hvals
  unfold Ziw at hk
  split at hk
  all_goals try (first | (simp at hk; done) | (rename_i heq; cases heq; done) | (rename_i heq _; cases heq; done))
  rename_i md' fo' ao' gop as ts heq
  cases heq
  rw [Zld hoo]
  have hv' : RL X (Zbz e fo :: ao.map (Zbz e)) (a.eval gop :: as.toList.map a.eval) := by simpa [ords, Op.operands, Call.operands] using hvals
  have hfv : RV X (Zbz e fo) (a.eval gop) := hv'.2 0 _ _ rfl rfl
  have hargs : RL X (ao.map (Zbz e)) (as.toList.map a.eval) := ⟨by have := hv'.1; simpa using this, fun i v y hv hy => hv'.2 (i + 1) v y (by simpa using hv) (by simpa using hy)⟩
  generalize hfe : Zbz e fo = fv at hfv hc
  generalize hgv : a.eval gop = gv at hfv
  cases fv <;> (try (simp [Zek] at hc; done))
  case fn k fst caps =>
    simp only [Zek] at hc
    cases hfv with
    | fn _ _ _ fs cs hfs hcs q1 q2 =>
    have : ∃ fn, AP k = some fn := by
      unfold Zdo at hc
      split at hc
      · cases hc
      · rename_i fn hfn; exact ⟨fn, hfn⟩
    obtain ⟨fn, hfn⟩ := this
    rw [hfm] at hgv
    rw [Zmt hP hfn hgv]
    refine ⟨fun hd => (by rw [Zkn] at hd; cases hd), ?_⟩
    have hall : RL X (fst ++ ao.map (Zbz e) ++ caps) (fs ++ as.map a.eval ++ cs).toList := by
      simp only [Array.toList_append, Array.toList_map]
      exact RL.append (RL.append ⟨by simpa using hfs, fun i v x hv hx => q1 i v x hv (by simpa using hx)⟩ hargs) ⟨by simpa using hcs, fun i v x hv hx => q2 i v x hv (by simpa using hx)⟩
    refine (Zlc hP hE hc h hfm hall hi l (m - 1)).mono fun e w' hr => ?_
    obtain ⟨hγ, x, Y, rfl, y1, y2, y3, y4, y5⟩ := hr
    exact hK Y x w' y1 y2 y3 y4 y5 hγ
  case yld id g =>
    have hyl := hfv
    cases hfv with
    | yld _ _ b hg hl =>
    simp only [Zek] at hc
    split at hc
    · rename_i p1 keep env ps asg body hget
      have ho := Zco.1 hget
      split at hc
      · rename_i hlen
        obtain ⟨n1, m1, hm⟩ := Zpc h hyl ho
        obtain ⟨r, hF, hb, hps, hasg, hbody, henv, hst, hpd⟩ := (h.obj _ _ _ ho).2.loopR hm
        have hrun : (execOp a.eval { o with op := .call { callee := .value gop, args := as, argTypes := ts } }).run P w = .ok (.round b r.fn ((r.params.zip (as.map a.eval)).foldl (fun tmps (t, a) => tmps.setIfInBounds t a) r.tmps) r.assign r.body) w := by
          simp only [execOp, resolve, hgv, Deferred.ofValue, invoke, Sem.run_bind, Sem.run_pure, Result.andThen_ok]
          have e1 : (#[] ++ as.map a.eval : Array Value) = as.map a.eval := by simp
          rw [e1]
          refine run_yield hb ?_
          have h1 := hargs.1
          have h2 : r.params.size = ps.length := by rw [← hps]; simp
          simp at h1 hlen ⊢
          omega
        rw [hrun]
        refine ⟨fun hd => (by rw [Zkn] at hd; cases hd), ?_⟩
        have htm : EnvR X (putL env ps (ao.map (Zbz e))) ((r.params.zip (as.map a.eval)).foldl (fun tmps (t, a) => tmps.setIfInBounds t a) r.tmps) := by
          have := EnvR.putTmps (ps := ps) henv hargs hlen
          rw [← hps] at this ⊢
          rw [← Array.foldl_toList, Array.toList_zip, Array.toList_map]
          exact this
        split at hc
        · rename_i s1 he1
          split at hc
          · rename_i p0 k0 e0 ps0 a0 b0 hget1
            split at hc
            · rename_i ex s2 he2
              split at hc
              · rename_i st1 pd1 k1 e1 ps1 a1 b1 hget2
                simp only [Option.some.injEq, Prod.mk.injEq] at hc
                obtain ⟨rfl, rfl, rfl⟩ := hc
                -- the assignments
                have hst0 : StR P fm B X.F X ⟨putL env ps (ao.map (Zbz e)), H, γ, some (id, g)⟩ w { tmps := (r.params.zip (as.map a.eval)).foldl (fun tmps (t, a) => tmps.setIfInBounds t a) r.tmps, defers := [] } (some b) :=
                  ⟨h, hfm, htm, hi, ⟨hyl, rfl⟩, fun _ _ hb => hb⟩
                refine roundIn_of_wpIn (Zqm l _) ?_
                have hff : (FF l).inRound b = FF (some b) := by cases l <;> rfl
                rw [hff]
                refine wpIn_mono (hE _ _ _ _ _ he1 hasg B X.F X w _ (some b) (m - 1) hst0) fun ee aa w1 hpost => ?_
                obtain ⟨hx, hrd1, hγ1, Y1, hle1, hnew1, hst1⟩ := hpost
                have hee : ee = .normal := by rcases Zyp hx with ⟨_, e⟩ | ⟨e, _⟩ | ⟨i, e, _⟩; exact e; cases e; cases e
                subst hee
                -- the record is ready
                have ho1 := Zco.1 hget1
                have hyl1 := hyl.weak hle1
                obtain ⟨n2, m2, hm1⟩ := Zpc hst1.rel hyl1 ho1
                obtain ⟨r1, hF1, hb1, hps1, hasg1, hbody1, henv1, hs1, hpd1⟩ := (hst1.rel.obj _ _ _ ho1).2.loopR hm1
                -- the body is the one that was laid
                obtain ⟨Y2, hle2, hrel2, hiss2⟩ := hst1.rel.loopSet (st' := .busy) (pend' := p0) (r' := { r1 with state := .busy }) ho1 hm1 hb1 rfl rfl rfl rfl rfl hpd1
                refine ⟨_, run_beginRound hb1 hs1, ?_⟩
                have hst2 : StR P fm B X.F Y2 ⟨s1.env, s1.H.set id (some (g, .loop .busy p0 k0 e0 ps0 a0 b0)), s1.γ, some (id, g)⟩ (w1.putObj b (.loop { r1 with state := .busy })) aa (some b) := by
                  refine ⟨hrel2, by rw [hle2.fm]; exact hst1.fm, hst1.env.weak hle2, fun i k hk => hst1.iss i k (hiss2 i k hk), ⟨hyl1.weak hle2, ?_⟩, fun b o hb => hle2.F _ _ (hst1.d b o hb)⟩
                  have hr1 := hst1.rd
                  rw [hrd1] at hr1
                  exact hr1.2
                refine wpIn_mono (hE _ _ _ _ _ he2 hbody B X.F Y2 _ aa (some b) (m - 1) hst2) fun e2 a2 w2 hpost2 => ?_
                obtain ⟨hx2, hrd2, hγ2, Y3, hle3, hnew3, hst3⟩ := hpost2
                have ho2 := Zco.1 hget2
                have hyl3 := (hyl1.weak hle2).weak hle3
                obtain ⟨n3, m3, hm3⟩ := Zpc hst3.rel hyl3 ho2
                obtain ⟨r2, hF2, hb2, hps2, hasg2, hbody2, henv2, hs2, hpd2⟩ := (hst3.rel.obj _ _ _ ho2).2.loopR hm3
                -- the round's end
                have fin : ∀ (jump : Option Code) (st' : LSt) (pd' : Option AC), (if jump.isNone then LoopState.ready else .done) = stOf st' → Zlb pd' = some jump →
                    (∀ Y x w', X.le Y → Rel (CC P fm) B Y (if keep then s2.H.set id (some (g, .loop st' pd' k1 e1 ps1 a1 b1)) else (s2.H.set id (some (g, .loop st' pd' k1 e1 ps1 a1 b1))).take H.length) w' → RV Y (.bool jump.isNone) x →
                      (∀ i k, Y.iss i k → k < s2.γ) → (∀ i k, Y.iss i k → X.iss i k ∨ γ ≤ k) → γ ≤ s2.γ → K (a.put o.dst x) w') →
                    ∃ v w', (Instr.endRound b jump).run P w2 = .ok v w' ∧ (match Ending.returned v, w' with
                      | .returned v, w'' => K (a.put o.dst v) w''
                      | .panicked chain, w'' => Q (.panic chain) a w''
                      | .outgrown, _ => LetsOut Q) := by
                  intro jump st' pd' j1 j2 hK'
                  obtain ⟨Y4, hle4, hrel4, hiss4⟩ := hst3.rel.loopSet (st' := st') (pend' := pd') (r' := { r2 with state := if jump.isNone then .ready else .done, pending := jump }) ho2 hm3 hb2 rfl rfl rfl rfl j1 j2
                  have hle : X.le Y4 := hle1.trans (hle2.trans (hle3.trans hle4))
                  have hall : ∀ i k, Y4.iss i k → X.iss i k ∨ γ ≤ k := fun i k hk => by
                    rcases hnew3 i k (hiss4 i k hk) with hk | hk
                    · rcases hnew1 i k (hiss2 i k hk) with hk | hk
                      · exact .inl hk
                      · exact .inr hk
                    · right
                      have : γ ≤ s1.γ := hγ1
                      have : s1.γ ≤ k := hk
                      omega
                  have hγ : γ ≤ s2.γ := Nat.le_trans hγ1 hγ2
                  refine ⟨_, _, run_endRound jump hb2, ?_⟩
                  simp only
                  cases keep with
                  | true => exact hK' Y4 _ _ hle hrel4 (.bool _) (fun i k hk => hst3.iss i k (hiss4 i k hk)) hall hγ
                  | false =>
                    obtain ⟨t1, t2⟩ := hrel4.take H.length
                    exact hK' _ _ _ (hle.trans t1) t2 (.bool _) (fun i k hk => hst3.iss i k (hiss4 i k hk)) hall hγ
                rcases Zyp hx2 with ⟨rfl, rfl⟩ | ⟨rfl, rfl⟩ | ⟨i, rfl, rfl⟩
                · exact fin none .ready none rfl rfl hK
                · exact fin (some .ret) .done (some .ret) rfl rfl hK
                · exact fin (some (.exit i)) .done (some (.exit i)) rfl rfl hK
              · cases hc
            · cases hc
          · cases hc
        · cases hc
      · cases hc
    · cases hc
end Go.AM
