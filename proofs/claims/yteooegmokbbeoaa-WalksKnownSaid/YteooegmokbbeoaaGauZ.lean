/- Copy; what is left; every operation that is no call. -/
import Derived.Test.YteooegmokbbeoaaGauY
set_option linter.unusedSimpArgs false
set_option linter.unusedVariables false
namespace Go.AM
open Go
variable {C : AC → Code → Prop} {B : Base} {X : Cx} {H H' : Heap} {w w' : World} {P : Program} {fm : Nat → Nat}

theorem Yho {ci : Bool → Nat → List V → Option (V × Option (List V × Kd))} {own : List (Nat × Nat)} {id g n sz : Nat} {y y' : Opd} {dv sv v : V} {d s : Value} {ts : Array TypeId} {t t' ty e e' : TypeId} {r ws : List Nat}
    (h : Rel C B X H w) (hts : ts[0]? = some t) (ht : P.underlying t = some (.slice e)) (hsz : szB P e sz = true) (hd : RV X dv d) (hs : RV X sv s)
    (hp : runP (Zaz ci own id g (.cpy sz y y') [dv, sv]) H = some (v, H', r, ws)) : SimR C B X v H' g n ((Builtin.copy_ ts ty #[d, s]).run P w) := by
  unfold Zaz at hp
  simp only at hp
  obtain ⟨us, m, vs, r1, hsh, hp'⟩ := Zta (P := P) h hs hp
  clear hp
  have hp := hp'
  clear hp'
  have hcells := hsh.2.2.1
  obtain ⟨su, sv', _, ⟨a0, c0, hsv, _⟩, hfc⟩ := hsh
  subst hsv
  have hrun : ∀ (a : Option Addr) (len c' : Nat) (w' : World), (match a with | some a => storeCells a (vs.take (min m len * sz)) | none => pure ()).run P w = .ok () w' →
      (Builtin.copy_ ts ty #[.slice a len c', .slice a0 m c0]).run P w = .ok (.int .i64 (min m len : Nat)) w' := fun a len c' w' hst => by
    have hf := hfc w (min m len) rfl (Nat.min_le_left _ _)
    cases a with
    | none => simp at hst; subst hst; simp [Builtin.copy_, hts, run_underlying ht, Zbh hsz, Builtin.lenOf, hf, goInt, ← Nat.min_def]
    | some a => simp [Builtin.copy_, hts, run_underlying ht, Zbh hsz, Builtin.lenOf, hf, goInt, hst, ← Nat.min_def]
  cases hd <;> (try exact (Zaw hp).elim)
  case nils =>
    obtain ⟨rfl, rfl⟩ := Zau hp
    rw [hrun none 0 0 w rfl]
    have : (min m 0 : Nat) = 0 := by omega
    rw [this]
    exact SimR.same h (.int _ _)
  case sl i gi sz' off len cap a c' hg hz1 hlc hc ha hl =>
    simp only at hp
    obtain ⟨rfl, hp⟩ := Zbw hp
    obtain ⟨o, r2, ho, hp, _⟩ := Zdv hp
    cases o <;> (try exact (Zaw hp).elim)
    rename_i cs kd
    have hsl := hl cs.length (by rw [h.lv]; exact Zbl.2 ⟨_, ho, rfl⟩)
    have go : kd ≠ .froz → kd ≠ .nilo → runP (if off + len * sz' ≤ cs.length then .wr i (some (gi, .cells (Zbf cs off (us.take (min m len * sz'))) kd)) (.ret (.int .i64 (min m len : Nat))) else .no) H = some (v, H', r2, ws) →
        SimR C B X v H' g n ((Builtin.copy_ ts ty #[.slice a len c', .slice a0 m c0]).run P w) := by
      intro hkd hkn hp
      obtain ⟨hle, hp⟩ := Zbw hp
      obtain ⟨ws1, hid, hp, _⟩ := Zcj hp
      obtain ⟨rfl, rfl⟩ := Zau hp
      have hml : min m len * sz' ≤ m * sz' := Nat.mul_le_mul_right _ (Nat.min_le_left _ _)
      have hml2 : min m len * sz' ≤ len * sz' := Nat.mul_le_mul_right _ (Nat.min_le_right _ _)
      unfold SlR at hsl
      split at hsl
      · rename_i hmu
        have := (h.obj _ _ _ ho).2
        unfold RO at this
        rw [hmu] at this
        exact absurd this.1 hkn
      · rename_i b base tot hm
        rcases hsl with ⟨rfl, t1, t2, t3, t4⟩ | ⟨t1, rfl, rfl, t2⟩
        · obtain ⟨w', s1, s2, s3, s4, _⟩ := h.store (P := P) (off := off) (xs := us.take (min m len * sz')) (vs := vs.take (min m len * sz')) ho hm hkd
            (fun j v hj => by
              rw [List.getElem?_take] at hj
              split at hj
              · rename_i hlt
                obtain ⟨q1, x, q2, q3⟩ := hcells j v hj
                exact ⟨q1, x, by simp only [List.getElem?_take, hlt, if_true]; exact q2, q3⟩
              · cases hj) (by simp; omega) (by simp; omega)
          rw [hrun (some ⟨b, base + off, none⟩) len c' w' s1]
          exact ⟨_, _, w', rfl, s2, s3, .int _ _, fun i k hk => .inl (s4 i k hk)⟩
        · have hm0 : (min m 0 : Nat) = 0 := by omega
          rw [hrun a 0 0 w (by rw [hm0]; cases a <;> simp [storeCells])]
          have hsp : H.set i (some (gi, .cells (Zbf cs off (us.take (min m 0 * sz'))) kd)) = H := by
            have : Zbf cs off (us.take (min m 0 * sz')) = cs := by simp [Zbf, hm0]
            rw [this]
            exact Zsk ho
          rw [hsp]
          exact SimR.same h (.int _ _)
    cases kd with
    | fixed => exact go (by simp) (by simp) hp
    | loose => exact go (by simp) (by simp) hp
    | nilo => exact (Zaw hp).elim
    | froz => exact (Zaw hp).elim

/-! ### Every operation that is no call -/
def ords : Aop → Op → List Operand
  | .alen _, _ => []
  | .bad, _ => []
  | _, o => o.operands.toList
/-- How many numbers an operation may give out. -/
def room (own : List (Nat × Nat)) : Aop → Nat
  | .box _ | .alloc _ | .bsl .. | .mks .. | .mkm _ | .app .. | .call .. => own.length + 1
  | .st .. | .mv _ => own.length
  | _ => 0

def SimN (C : AC → Code → Prop) (B : Base) (X : Cx) (v : V) (H' : Heap) (g n : Nat) (r : Result Next) : Prop :=
  ∃ (Y : Cx) (nx : Next) (w' : World), r = .ok nx w' ∧ X.le Y ∧ Rel C B Y H' w' ∧ Iss X Y g n ∧ ((nx = .skip ∧ v = .junk) ∨ ∃ x, nx = .value x ∧ RV Y v x)
theorem Zcg {v : V} {g n : Nat} {s : Sem Value} (h : SimR C B X v H' g n (s.run P w)) : SimN C B X v H' g n ((do pure (Next.value (← s)) : Sem Next).run P w) := by
  obtain ⟨Y, x, w', h1, h2, h3, h4, h5⟩ := h
  exact ⟨Y, .value x, w', by simp [Sem.run_bind, h1], h2, h3, h5, .inr ⟨x, rfl, h4⟩⟩
theorem Zxl {v : V} {g n : Nat} {s : Sem Unit} (h : v = .junk ∧ SimU C B X H' g n (s.run P w)) : SimN C B X v H' g n ((do s; pure Next.skip : Sem Next).run P w) := by
  obtain ⟨hv, Y, w', h1, h2, h3, h4⟩ := h
  exact ⟨Y, .skip, w', by simp [Sem.run_bind, h1], h2, h3, h4, .inl ⟨rfl, hv⟩⟩

theorem RL.nil {vals : List V} (h : RL X vals []) : vals = [] := List.eq_nil_of_length_eq_zero h.1.symm
theorem RL.cons {vals : List V} {x : Value} {xs : List Value} (h : RL X vals (x :: xs)) : ∃ a l, vals = a :: l ∧ RV X a x ∧ RL X l xs := by
  cases vals with
  | nil => have := h.1; simp at this
  | cons a l => exact ⟨a, l, rfl, h.2 0 a x rfl rfl, by have := h.1; simpa using this, fun i v y hv hy => h.2 (i + 1) v y (by simpa using hv) (by simpa using hy)⟩
theorem RL.one {vals : List V} {x : Value} (h : RL X vals [x]) : ∃ a, vals = [a] ∧ RV X a x := by
  obtain ⟨a, l, rfl, h1, h2⟩ := h.cons
  exact ⟨a, by rw [h2.nil], h1⟩
theorem RL.two {vals : List V} {x y : Value} (h : RL X vals [x, y]) : ∃ a b, vals = [a, b] ∧ RV X a x ∧ RV X b y := by
  obtain ⟨a, l, rfl, h1, h2⟩ := h.cons
  obtain ⟨b, rfl, h3⟩ := h2.one
  exact ⟨a, b, rfl, h1, h3⟩
theorem RL.three {vals : List V} {x y z : Value} (h : RL X vals [x, y, z]) : ∃ a b c, vals = [a, b, c] ∧ RV X a x ∧ RV X b y ∧ RV X c z := by
  obtain ⟨a, l, rfl, h1, h2⟩ := h.cons
  obtain ⟨b, c, rfl, h3, h4⟩ := h2.two
  exact ⟨a, b, c, rfl, h1, h3, h4⟩

/-- A value is moved; nil slices in it become slices of the call's own. -/
theorem Ycv {ci : Bool → Nat → List V → Option (V × Option (List V × Kd))} {own : List (Nat × Nat)} {id g n : Nat} {y : Opd} {av v : V} {x : Value} {r ws : List Nat} (h : Rel C B X H w) (hf : Zgh X g n) (hn : own.length ≤ n) (ha : RV X av x)
    (hp : runP (Zaz ci own id g (.mv y) [av]) H = some (v, H', r, ws)) : SimR C B X v H' g n (.ok x w) := by
  unfold Zaz at hp
  simp only at hp
  cases own with
  | nil =>
    obtain ⟨rfl, rfl⟩ := Zau hp
    exact SimR.same h ha
  | cons q own =>
    simp only at hp
    by_cases hw : Zcc av = true
    · obtain ⟨hc, hs⟩ := Ziq ha hw
      obtain ⟨Y, H1, cs', r', ws', a1, a2, a3, a4, a5, a6, hp⟩ := Zko (q :: own) X H id g _ _ _ h (fun i k hk => by have := hf i k hk; omega) hc hp
      cases av <;> (try (simp [Zcc] at hw)) <;> (try (
        obtain ⟨c, rfl⟩ : ∃ c, cs' = [c] := by
          match cs', a4 with
          | [c], _ => exact ⟨c, rfl⟩
        simp only at hp
        obtain ⟨rfl, rfl⟩ := Zau hp
        obtain ⟨h1, x', h2, h3⟩ := a3 0 _ rfl
        have hx : x.cells = #[x] := Zvx ha rfl
        simp only [hx] at h2
        simp at h2
        subst h2
        exact ⟨Y, x, w, rfl, a1, a2, h3, fun i k hk => by rcases a5 i k hk with hk | hk; exact .inl hk; right; omega⟩))
      simp only at hp
      obtain ⟨rfl, rfl⟩ := Zau hp
      cases ha with
      | agg cells xs hs1 h1 h2 =>
        refine ⟨Y, .agg xs, w, rfl, a1, a2, Zyf (by simp only [Value.cells] at hs; rw [hs, a4]) a3, fun i k hk => by rcases a5 i k hk with hk | hk; exact .inl hk; right; omega⟩
    · obtain ⟨j, sz⟩ := q
      cases av <;> simp [Zcc] at hw <;> simp [Zbj, ownL] at hp
      all_goals (cases j <;> simp [runP] at hp)
end Go.AM

set_option linter.unusedSimpArgs false
set_option linter.unusedVariables false
namespace Go.AM
open Go
variable {C : AC → Code → Prop} {B : Base} {X : Cx} {H H' : Heap} {w w' : World} {P : Program} {fm : Nat → Nat}

theorem Zld {ρ : Operand → Value} {o : Oper} {oo : Op} (h : o.op = oo) : execOp ρ o = execOp ρ { o with op := oo } := by rw [← h]

theorem ops1 {a : Opd} {xs : List Operand} (h : Zcb fm [a] xs = true) : ∃ x, xs = [x] := by
  rcases xs with _ | ⟨x, _ | ⟨y, l⟩⟩ <;> simp [Zcb] at h
  exact ⟨x, rfl⟩
theorem ops2 {a b : Opd} {xs : List Operand} (h : Zcb fm [a, b] xs = true) : ∃ x y, xs = [x, y] := by
  rcases xs with _ | ⟨x, _ | ⟨y, _ | ⟨z, l⟩⟩⟩ <;> simp [Zcb] at h
  exact ⟨x, y, rfl⟩
theorem arr1 {xs : Array Operand} {x : Operand} (h : xs.toList = [x]) : xs = #[x] := by cases xs; simpa using h
theorem arr2 {xs : Array Operand} {x y : Operand} (h : xs.toList = [x, y]) : xs = #[x, y] := by cases xs; simpa using h

theorem RL.pure_eq {fs : List Opd} {vals : List V} {xs ys : List Value} (h : RL X vals (xs ++ ys)) (hx : xs.length = fs.length) : RL X (vals.take fs.length) xs ∧ RL X (vals.drop fs.length) ys := by
  obtain ⟨h1, h2⟩ := h
  simp at h1
  refine ⟨⟨by simp; omega, fun i v x hv hx' => ?_⟩, ⟨by simp; omega, fun i v x hv hx' => ?_⟩⟩
  · rw [List.getElem?_take] at hv
    split at hv
    · exact h2 i v x hv (by rw [List.getElem?_append_left (by omega)]; exact hx')
    · cases hv
  · rw [List.getElem?_drop] at hv
    exact h2 _ v x hv (by rw [List.getElem?_append_right (by omega)]; rw [← hx']; congr 1; omega)

theorem Ygo {ci : Bool → Nat → List V → Option (V × Option (List V × Kd))} {own : List (Nat × Nat)} {id g n sz : Nat} {x : Opd} {l h m : Option Opd} {vals : List V} {x' : Operand} {l' h' m' : Option Operand} {ρ : Operand → Value} {t e : TypeId} {v : V} {r ws : List Nat}
    (hR : Rel C B X H w) (hu : P.underlying t = some (.slice e)) (hsz : szB P e sz = true) (hl : Zcb fm l.toList l'.toList = true) (hh : Zcb fm h.toList h'.toList = true) (hm : Zcb fm m.toList m'.toList = true)
    (hv : RL X vals (([x'] ++ l'.toList ++ h'.toList ++ m'.toList).map ρ)) (hp : runP (Zaz ci own id g (.slc sz x l h m) vals) H = some (v, H', r, ws)) :
    SimR C B X v H' g n ((Instr.sliceAt t (ρ x') (l'.map ρ) (h'.map ρ) (m'.map ρ)).run P w) := by
  have opt : ∀ {a : Option Opd} {a' : Option Operand}, Zcb fm a.toList a'.toList = true → (a = none ∧ a' = none) ∨ ∃ q q', a = some q ∧ a' = some q' := fun {a a'} ha => by
    cases a <;> cases a' <;> simp [Zcb] at ha ⊢
  unfold Zaz at hp
  rcases opt hl with ⟨rfl, rfl⟩ | ⟨ql, ql', rfl, rfl⟩ <;> rcases opt hh with ⟨rfl, rfl⟩ | ⟨qh, qh', rfl, rfl⟩ <;> rcases opt hm with ⟨rfl, rfl⟩ | ⟨qm, qm', rfl, rfl⟩ <;>
    simp only [Option.toList, List.append_nil, List.nil_append, List.cons_append, List.map_cons, List.map_nil] at hv <;> obtain ⟨a, l, rfl, ha, hv⟩ := hv.cons
  · obtain rfl := hv.nil
    obtain ⟨hs, rfl⟩ := Zch hp
    exact Zhb (lo := none) (hi := none) (mx := none) hR hu hsz ha trivial trivial trivial hs
  · obtain ⟨b, rfl, hb⟩ := hv.one
    exact (Zaw hp).elim
  · obtain ⟨b, rfl, hb⟩ := hv.one
    obtain ⟨hs, rfl⟩ := Zch hp
    exact Zhb (lo := none) (hi := some b) (mx := none) hR hu hsz ha trivial hb trivial hs
  · obtain ⟨b, c, rfl, hb, hc⟩ := hv.two
    obtain ⟨hs, rfl⟩ := Zch hp
    exact Zhb (lo := none) (hi := some b) (mx := some c) hR hu hsz ha trivial hb hc hs
  · obtain ⟨b, rfl, hb⟩ := hv.one
    obtain ⟨hs, rfl⟩ := Zch hp
    exact Zhb (lo := some b) (hi := none) (mx := none) hR hu hsz ha hb trivial trivial hs
  · obtain ⟨b, c, rfl, hb, hc⟩ := hv.two
    exact (Zaw hp).elim
  · obtain ⟨b, c, rfl, hb, hc⟩ := hv.two
    obtain ⟨hs, rfl⟩ := Zch hp
    exact Zhb (lo := some b) (hi := some c) (mx := none) hR hu hsz ha hb hc trivial hs
  · obtain ⟨b, c, d, rfl, hb, hc, hd⟩ := hv.three
    obtain ⟨hs, rfl⟩ := Zch hp
    exact Zhb (lo := some b) (hi := some c) (mx := some d) hR hu hsz ha hb hc hd hs

theorem Zla {ρ : Operand → Value} {o : Oper} {b : Builtin} {args : Array Operand} {ts : Array TypeId} : ∃ cs, (execOp ρ { o with op := .call { callee := .builtin b, args := args, argTypes := ts } }).run P w =
    (builtin b ts o.type cs (args.map ρ)).run P w := by
  refine ⟨?_, ?_⟩
  rotate_left
  · simp only [execOp, resolve, invoke, Sem.run_bind, Sem.run_pure, Result.andThen_ok]
    rfl
theorem map1 {ρ : Operand → Value} {x : Operand} : (#[x] : Array Operand).map ρ = #[ρ x] := by simp
theorem map2 {ρ : Operand → Value} {x y : Operand} : (#[x, y] : Array Operand).map ρ = #[ρ x, ρ y] := by simp
theorem bi1 {ρ : Operand → Value} {o : Oper} {b : Builtin} {x : Operand} {ts : Array TypeId} {v : V} {g n : Nat} (h : ∀ cs, SimN C B X v H' g n ((builtin b ts o.type cs #[ρ x]).run P w)) :
    SimN C B X v H' g n ((execOp ρ { o with op := .call { callee := .builtin b, args := #[x], argTypes := ts } }).run P w) := by
  obtain ⟨cs, e⟩ := Zla (P := P) (w := w) (ρ := ρ) (o := o) (b := b) (args := #[x]) (ts := ts)
  rw [e, map1]; exact h cs
theorem bi2 {ρ : Operand → Value} {o : Oper} {b : Builtin} {x y : Operand} {ts : Array TypeId} {v : V} {g n : Nat} (h : ∀ cs, SimN C B X v H' g n ((builtin b ts o.type cs #[ρ x, ρ y]).run P w)) :
    SimN C B X v H' g n ((execOp ρ { o with op := .call { callee := .builtin b, args := #[x, y], argTypes := ts } }).run P w) := by
  obtain ⟨cs, e⟩ := Zla (P := P) (w := w) (ρ := ρ) (o := o) (b := b) (args := #[x, y]) (ts := ts)
  rw [e, map2]; exact h cs

set_option maxHeartbeats 2000000 in
theorem op_sim {ci : Bool → Nat → List V → Option (V × Option (List V × Kd))} {own : List (Nat × Nat)} {id g n : Nat} {op : Aop} {o : Oper} {ρ : Operand → Value} {vals : List V} {v : V} {r ws : List Nat}
    (hk : Ziw P fm op o.op = true) (hnc : ∀ m f as, op ≠ .call m f as) (h : Rel C B X H w) (hfm : X.fm = fm) (hf : Zgh X g n) (hn : room own op ≤ n) (hv : RL X vals ((ords op o.op).map ρ))
    (hp : runP (Zaz ci own id g op vals) H = some (v, H', r, ws)) : SimN C B X v H' g n ((execOp ρ o).run P w) := by
  generalize hoo : o.op = oo at hk hv
  rw [Zld hoo]
  unfold Ziw at hk
  split at hk
  all_goals try (simp at hk; done)
  case h_1 x y =>
    obtain ⟨a, rfl, ha⟩ := RL.one (x := ρ y) hv
    exact Zcg (s := pure (ρ y)) (Ycv h hf hn ha hp)
  case h_2 x y =>
    obtain ⟨a, rfl, ha⟩ := RL.one (x := ρ y) hv
    exact Zcg (s := pure (ρ y)) (Ycv h hf hn ha hp)
  case h_3 c a b c' a' b' =>
    obtain ⟨u1, u2, u3, rfl, h1, h2, h3⟩ := RL.three (x := ρ c') (y := ρ a') (z := ρ b') hv
    unfold Zaz at hp
    cases u1 <;> simp only at hp <;> (try exact (Zaw hp).elim)
    rename_i t
    obtain ⟨rfl, rfl⟩ := Zau hp
    generalize hc' : ρ c' = cv at h1
    cases h1
    have : (execOp ρ { dst := o.dst, op := Op.pick c' a' b', type := o.type, pos := o.pos, after := o.after, guard := o.guard }).run P w = .ok (.value (if t then ρ a' else ρ b')) w := by
      simp [execOp, hc', asBool]
    rw [this]
    refine ⟨X, _, w, rfl, Cx.le.refl X, h, fun _ _ hi => .inl hi, .inr ⟨_, rfl, ?_⟩⟩
    cases t
    · exact h3
    · exact h2
  case h_4 x el y =>
    obtain ⟨a, rfl, ha⟩ := RL.one (x := ρ y) hv
    exact Zcg (Yfs h hf (by simp [room] at hn; omega) ha hp)
  case h_5 z t =>
    obtain rfl := RL.nil hv
    exact Zcg (Zxa h hf (by simp [room] at hn; omega) hk hp)
  case h_6 z ps t qs =>
    simp only [Bool.and_eq_true] at hk
    refine Zcg (Zzp (fm := fm) (xs := qs.toList.map fun q => ρ q.2) h hk.1 rfl ?_ (by simpa [ords, Op.operands, Function.comp_def] using hv) hp)
    obtain ⟨_, hk⟩ := hk
    split at hk
    · rename_i fs hu
      simp only [Bool.and_eq_true] at hk
      exact .inl ⟨fs, hu, hk.1, hk.2⟩
    · rename_i m e hu
      split at hk
      · rename_i i hi
        exact .inr ⟨m, e, i, hu, hi, hk⟩
      · cases hk
    · cases hk
  case h_7 sz len z ps t len' qs =>
    simp only [Bool.and_eq_true, beq_iff_eq] at hk
    obtain ⟨rfl, hk⟩ := hk
    split at hk
    · rename_i e hu
      simp only [Bool.and_eq_true] at hk
      exact Zcg (Yej (fm := fm) (xs := qs.toList.map fun q => ρ q.2) h hf (by simp [room] at hn; omega) hu hk.1.1 hk.1.2 rfl hk.2 (by simpa [ords, Op.operands, Function.comp_def] using hv) hp)
    · cases hk
  case h_8 n' ag x t y =>
    simp only [Bool.and_eq_true] at hk
    obtain ⟨a, rfl, ha⟩ := RL.one (x := ρ y) hv
    exact Zcg (sim_ld h hk.1.1 hk.1.2 ha hp)
  case h_9 n' a x t a' x' =>
    simp only [Bool.and_eq_true] at hk
    obtain ⟨u1, u2, rfl, h1, h2⟩ := RL.two (x := ρ a') (y := ρ x') hv
    exact Zxl (sim_st h hf hn hk.1.1 h1 h2 hp)
  case h_10 x y =>
    obtain ⟨a, rfl, ha⟩ := RL.one (x := ρ y) hv
    unfold Zaz at hp
    generalize hy : ρ y = yv at ha
    have fin : v = a → H' = H → (execOp ρ { dst := o.dst, op := Op.nilCheck y, type := o.type, pos := o.pos, after := o.after, guard := o.guard }).run P w = .ok (.value yv) w → SimN C B X v H' g n ((execOp ρ { dst := o.dst, op := Op.nilCheck y, type := o.type, pos := o.pos, after := o.after, guard := o.guard }).run P w) := fun e1 e2 e3 => by
      rw [e3]; subst e1 e2
      exact ⟨X, _, w, rfl, Cx.le.refl X, h, fun _ _ hi => .inl hi, .inr ⟨_, rfl, ha⟩⟩
    cases ha <;> simp only at hp <;> (try exact (Zaw hp).elim)
    · obtain ⟨e1, e2⟩ := Zau hp
      exact fin e1 e2 (by simp [execOp, hy])
    · obtain ⟨e1, e2⟩ := Zau hp
      exact fin e1 e2 (by simp [execOp, hy])
    · obtain ⟨e1, e2⟩ := Zau hp
      exact fin e1 e2 (by simp [execOp, hy])
  case h_11 bop x y bop' t x' y' yt =>
    simp only [Bool.and_eq_true, decide_eq_true_eq] at hk
    obtain ⟨⟨rfl, _⟩, _⟩ := hk
    obtain ⟨u1, u2, rfl, h1, h2⟩ := RL.two (x := ρ x') (y := ρ y') hv
    exact Zcg (Yfw h h1 h2 hp)
  case h_12 ng ag ks x y bop t x' y' yt =>
    simp only [Bool.and_eq_true] at hk
    obtain ⟨u1, u2, rfl, h1, h2⟩ := RL.two (x := ρ x') (y := ρ y') hv
    exact Zcg (Yfc h hk.1.1.1 hk.1.1.2 h1 h2 hp)
  case h_13 ng nk x y bop t x' y' yt =>
    simp only [Bool.and_eq_true] at hk
    obtain ⟨u1, u2, rfl, h1, h2⟩ := RL.two (x := ρ x') (y := ρ y') hv
    exact Zcg (Ygt h hk.1.1.1 hk.1.1.2 h1 h2 hp)
  case h_14 uop x uop' xt y =>
    simp only [Bool.and_eq_true, decide_eq_true_eq] at hk
    obtain ⟨rfl, _⟩ := hk
    obtain ⟨a, rfl, ha⟩ := RL.one (x := ρ y) hv
    exact Zcg (sim_un h ha hp)
  case h_15 k x src dst y =>
    simp only [Bool.and_eq_true] at hk
    obtain ⟨hk, _⟩ := hk
    obtain ⟨a, rfl, ha⟩ := RL.one (x := ρ y) hv
    split at hk
    · rename_i k0 k' h1 h2
      obtain rfl := Zwa hk
      exact Zcg (Ycd h h1 h2 ha hp)
    · cases hk
  case h_16 f fs cs k fs' cs' =>
    simp only [Bool.and_eq_true, beq_iff_eq] at hk
    obtain ⟨⟨hk0, hk1⟩, hk2⟩ := hk
    have hl : ∀ {xs : List Opd} {ys : List Operand}, Zcb fm xs ys = true → ys.length = xs.length := fun {xs} => by
      induction xs with
      | nil => intro ys h; cases ys <;> simp [Zcb] at h ⊢
      | cons x xs ih => intro ys h; cases ys <;> simp [Zcb] at h ⊢; exact ih h.2
    have hv' : RL X vals (fs'.toList.map ρ ++ cs'.toList.map ρ) := by simpa [ords, Op.operands] using hv
    obtain ⟨q1, q2⟩ := RL.pure_eq (fs := fs) hv' (by simpa using hl hk1)
    unfold Zaz at hp
    obtain ⟨rfl, rfl⟩ := Zau hp
    refine Zcg (s := Instr.makeFunc (.func k) (fs'.map ρ) (cs'.map ρ)) (SimR.same h ?_)
    subst hk0 hfm
    refine .fn f _ _ _ _ (by simpa using q1.1) (by simpa using q2.1) (fun i v x hv hx => q1.2 i v x hv (by simpa using hx)) (fun i v x hv hx => q2.2 i v x hv (by simpa using hx))
  case h_17 t =>
    obtain rfl := RL.nil hv
    exact Zcg (Zzf (rv := none) h hf (by simp [room] at hn; omega) trivial hp)
  case h_18 x t y =>
    simp only [Bool.and_eq_true] at hk
    obtain ⟨_, hk⟩ := hk
    obtain ⟨a, rfl, ha⟩ := RL.one (x := ρ y) hv
    split at hk
    · rename_i k e hu
      exact Zcg (Zzf (ro := some x) (vals := [a]) (rv := some (ρ y)) h hf (by simp [room] at hn; omega) ⟨ha, k, e, hu⟩ hp)
    · cases hk
  case h_19 sz bytes z l c t l' c' =>
    simp only [Bool.and_eq_true] at hk
    obtain ⟨_, hk⟩ := hk
    obtain ⟨u1, u2, rfl, h1, h2⟩ := RL.two (x := ρ l') (y := ρ c') hv
    split at hk
    · rename_i e hu
      simp only [Bool.and_eq_true] at hk
      exact Zcg (Yhh h hf (by simp [room] at hn; omega) hu hk.1.1 hk.1.2 hk.2 h1 h2 hp)
    · cases hk
  case h_20 sz x l hh m t x' l' h' m' =>
    simp only [Bool.and_eq_true] at hk
    obtain ⟨⟨⟨⟨_, hk1⟩, hk2⟩, hk3⟩, hk⟩ := hk
    split at hk
    · rename_i e hu
      exact Zcg (Ygo h hu hk hk1 hk2 hk3 (by simpa [ords, Op.operands] using hv) hp)
    · cases hk
  case h_21 off x t y f =>
    simp only [Bool.and_eq_true] at hk
    obtain ⟨_, hk⟩ := hk
    obtain ⟨a, rfl, ha⟩ := RL.one (x := ρ y) hv
    split at hk
    · rename_i fs hu
      split at hk
      · rename_i fd hfd
        simp only [Bool.and_eq_true, beq_iff_eq] at hk
        obtain ⟨ho, hk⟩ := hk
        split at hk
        · rename_i i hi
          exact Zcg (Yfv h hu hfd ho hi (by simpa using hk) ha hp)
        · cases hk
      · cases hk
    · cases hk
  case h_22 off n' ag x t y f =>
    simp only [Bool.and_eq_true] at hk
    obtain ⟨_, hk⟩ := hk
    obtain ⟨a, rfl, ha⟩ := RL.one (x := ρ y) hv
    split at hk
    · rename_i fs hu
      split at hk
      · rename_i fd hfd
        simp only [Bool.and_eq_true, beq_iff_eq] at hk
        exact Zcg (Yhu h hu hfd hk.1.1 hk.1.2 hk.2 ha hp)
      · cases hk
    · cases hk
  case h_23 sz x i t x' i' =>
    simp only [Bool.and_eq_true] at hk
    obtain ⟨_, hk⟩ := hk
    obtain ⟨u1, u2, rfl, h1, h2⟩ := RL.two (x := ρ x') (y := ρ i') hv
    split at hk
    · rename_i e hu
      exact Zcg (Yhq h hu hk h1 h2 hp)
    · cases hk
  case h_24 sz len x i t x' i' =>
    simp only [Bool.and_eq_true] at hk
    obtain ⟨_, hk⟩ := hk
    obtain ⟨u1, u2, rfl, h1, h2⟩ := RL.two (x := ρ x') (y := ρ i') hv
    split at hk
    · rename_i m e hu
      simp only [Bool.and_eq_true, beq_iff_eq] at hk
      obtain ⟨rfl, hk⟩ := hk
      exact Zcg (Yhv h hu hk h1 h2 hp)
    · cases hk
  case h_25 sz len ag x i t x' i' =>
    simp only [Bool.and_eq_true] at hk
    obtain ⟨_, hk⟩ := hk
    obtain ⟨u1, u2, rfl, h1, h2⟩ := RL.two (x := ρ x') (y := ρ i') hv
    split at hk
    · rename_i m e hu
      simp only [Bool.and_eq_true, beq_iff_eq] at hk
      obtain ⟨⟨rfl, hk1⟩, hk2⟩ := hk
      exact Zcg (Yfn h hu hk1 hk2 h1 h2 hp)
    · cases hk
  case h_26 ag ks z ok x k t x' k' ok' =>
    simp only [Bool.and_eq_true, beq_iff_eq] at hk
    obtain ⟨⟨⟨rfl, _⟩, _⟩, hk⟩ := hk
    obtain ⟨u1, u2, rfl, h1, h2⟩ := RL.two (x := ρ x') (y := ρ k') hv
    split at hk
    · rename_i kt e hu
      simp only [Bool.and_eq_true] at hk
      exact Zcg (Yei h hfm hu hk.1 hk.2 h1 h2 hp)
    · cases hk
  case h_27 ag ks m k x t m' k' x' =>
    simp only [Bool.and_eq_true] at hk
    obtain ⟨_, hk⟩ := hk
    obtain ⟨u1, u2, u3, rfl, h1, h2, h3⟩ := RL.three (x := ρ m') (y := ρ k') (z := ρ x') hv
    split at hk
    · rename_i kt e hu
      exact Zxl (Zyz h hu hk h1 h2 h3 hp)
    · cases hk
  case h_28 ag ks m k x t m' k' x' =>
    simp only [Bool.and_eq_true] at hk
    obtain ⟨_, hk⟩ := hk
    obtain ⟨u1, u2, u3, rfl, h1, h2, h3⟩ := RL.three (x := ρ m') (y := ρ k') (z := ρ x') hv
    split at hk
    · rename_i kt e hu
      exact Zxl (Zyz h hu hk h1 h2 h3 hp)
    · cases hk
  case h_29 x i y j =>
    simp only [Bool.and_eq_true, beq_iff_eq] at hk
    obtain ⟨_, rfl⟩ := hk
    obtain ⟨a, rfl, ha⟩ := RL.one (x := ρ y) hv
    exact Zcg (Yht h ha hp)
  case h_30 sz bytes s x args ts =>
    simp only [Bool.and_eq_true] at hk
    obtain ⟨hk0, hk⟩ := hk
    obtain ⟨s', x', hargs⟩ := ops2 hk0
    obtain rfl := arr2 hargs
    obtain ⟨u1, u2, rfl, h1, h2⟩ := RL.two (x := ρ s') (y := ρ x') hv
    split at hk
    · rename_i t t' ht ht'
      split at hk
      · rename_i e e' hu hu'
        simp only [Bool.and_eq_true, decide_eq_true_eq] at hk
        obtain ⟨⟨⟨hk1, hk2⟩, hk3⟩, hk4⟩ := hk
        have hz : ∃ i z, P.info? e = some i ∧ i.zero = some z ∧ z.cells.size = sz := by
          split at hk4
          · rename_i i hi
            split at hk4
            · rename_i z hz; exact ⟨i, z, hi, hz, by simpa using hk4⟩
            · cases hk4
          · cases hk4
        exact bi2 fun cs => Zcg (s := Builtin.append_ ts o.type #[ρ s', ρ x']) (Ygx h hf (by simp [room] at hn; omega) ht ht' hu hu' hk2 hk3 hz h1 h2 hk1 hp)
      · cases hk
    · cases hk
  case h_31 m x args ts =>
    simp only [Bool.and_eq_true] at hk
    obtain ⟨hk0, hk⟩ := hk
    obtain ⟨x', hargs⟩ := ops1 hk0
    obtain rfl := arr1 hargs
    obtain ⟨a, rfl, ha⟩ := RL.one (x := ρ x') hv
    split at hk
    · rename_i t ht
      cases hu : P.underlying t with
      | none => rw [hu] at hk; simp at hk
      | some d =>
        rw [hu] at hk
        exact bi1 fun cs => Zcg (s := Builtin.len_ ts o.type #[ρ x']) (Yem h ht hu (by cases d <;> first | (simp at hk; done) | simpa [lenD] using hk) ha hp)
    · cases hk
  case h_32 m args ts =>
    simp only [Bool.and_eq_true, beq_iff_eq] at hk
    obtain ⟨hk0, hk⟩ := hk
    obtain rfl := RL.nil hv
    obtain ⟨x', rfl⟩ : ∃ x', args = #[x'] := by
      match args, hk0 with
      | ⟨[x]⟩, _ => exact ⟨x, rfl⟩
    unfold Zaz at hp
    obtain ⟨rfl, rfl⟩ := Zau hp
    split at hk
    · rename_i t ht
      split at hk
      · rename_i m' e hu
        simp only [decide_eq_true_eq] at hk
        subst hk
        refine bi1 fun cs => Zcg (s := Builtin.len_ ts o.type #[ρ x']) ?_
        have : (Builtin.len_ ts o.type #[ρ x']).run P w = .ok (.int .i64 m') w := by simp [Builtin.len_, ht, run_underlying hu, goInt]
        rw [this]
        exact SimR.same h (.int _ _)
      · cases hk
    · cases hk
  case h_33 x args ts =>
    simp only [Bool.and_eq_true] at hk
    obtain ⟨hk0, hk⟩ := hk
    obtain ⟨x', hargs⟩ := ops1 hk0
    obtain rfl := arr1 hargs
    obtain ⟨a, rfl, ha⟩ := RL.one (x := ρ x') hv
    split at hk
    · rename_i t ht
      split at hk
      · rename_i e hu
        exact bi1 fun cs => Zcg (s := Builtin.cap_ ts o.type #[ρ x']) (Ydc h ht hu ha hp)
      · cases hk
    · cases hk
  case h_34 x y args ts =>
    obtain ⟨x', y', hargs⟩ := ops2 hk
    obtain rfl := arr2 hargs
    obtain ⟨u1, u2, rfl, h1, h2⟩ := RL.two (x := ρ x') (y := ρ y') hv
    exact bi2 fun cs => Zcg (s := Builtin.max_ ts o.type #[ρ x', ρ y']) (sim_mx h h1 h2 hp)
  case h_35 x y args ts =>
    obtain ⟨x', y', hargs⟩ := ops2 hk
    obtain rfl := arr2 hargs
    obtain ⟨u1, u2, rfl, h1, h2⟩ := RL.two (x := ρ x') (y := ρ y') hv
    exact bi2 fun cs => Zcg (s := Builtin.min_ ts o.type #[ρ x', ρ y']) (sim_mn h h1 h2 hp)
  case h_36 sz d s args ts =>
    simp only [Bool.and_eq_true] at hk
    obtain ⟨hk0, hk⟩ := hk
    obtain ⟨x', y', hargs⟩ := ops2 hk0
    obtain rfl := arr2 hargs
    obtain ⟨u1, u2, rfl, h1, h2⟩ := RL.two (x := ρ x') (y := ρ y') hv
    split at hk
    · rename_i t t' ht ht'
      split at hk
      · rename_i e e' hu hu'
        exact bi2 fun cs => Zcg (s := Builtin.copy_ ts o.type #[ρ x', ρ y']) (Yho (t' := t) (e' := e) h ht hu hk h1 h2 hp)
      · cases hk
    · cases hk
  case h_37 => exact absurd rfl (hnc _ _ _)
  case h_38 x i t x' i' =>
    simp only [Bool.and_eq_true] at hk
    obtain ⟨_, hk⟩ := hk
    obtain ⟨u1, u2, rfl, h1, h2⟩ := RL.two (x := ρ x') (y := ρ i') hv
    unfold Zaz at hp
    generalize hx' : ρ x' = xv at h1
    generalize hi' : ρ i' = iv at h2
    cases h1 <;> simp only at hp <;> (try exact (Zaw hp).elim)
    cases h2 <;> simp only at hp <;> (try exact (Zaw hp).elim)
    rename_i st k q
    split at hk
    · rename_i hu
      split at hp
      · rename_i b hb
        obtain ⟨rfl, rfl⟩ := Zau hp
        refine Zcg (s := Instr.index t (ρ x') (ρ i')) ?_
        have : (Instr.index t (ρ x') (ρ i')).run P w = .ok (.int .u8 b.toNat) w := by
          simp [Instr.index, hx', hi', asIntOf, run_underlying hu, hb]
        rw [this]
        exact SimR.same h (.int _ _)
      · exact (Zaw hp).elim
    · cases hk
  case h_40 => exact (Zaw hp).elim
end Go.AM
