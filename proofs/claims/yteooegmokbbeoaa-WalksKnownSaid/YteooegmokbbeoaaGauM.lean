/- Numbers, tests, function values, structs by value, slice expressions. -/
import Derived.Test.YteooegmokbbeoaaGauO
set_option linter.unusedSimpArgs false
set_option linter.unusedVariables false
namespace Go.AM
open Go
variable {C : AC → Code → Prop} {B : Base} {X : Cx} {H H' : Heap} {w w' : World} {P : Program} {fm : Nat → Nat}

theorem Zfl : ∀ (d : Nat) (t : TypeId) (ks : List SK), shp P d t = some ks → ∀ n, d ≤ n → P.eqGuardType n t = false
  | 0, t, ks, h, _, _ => by simp [shp] at h
  | d + 1, t, ks, h, n, hn => by
    obtain ⟨n, rfl⟩ : ∃ m, n = m + 1 := ⟨n - 1, by omega⟩
    simp only [shp] at h
    unfold Program.eqGuardType
    split at h
    · rename_i hk; rw [hk]
    · rename_i hk; rw [hk]
    · rename_i hk; rw [hk]
    · rename_i fs hk
      rw [hk]
      split at h
      · cases h
      · split at h
        · rename_i ks' hks
          have key : ∀ (l : List Field) (off : Nat) (ks : List SK), shp.shpS (shp P d) l off = some ks → l.any (fun f => f.name != "_" && P.eqGuardType n f.type) = false := by
            intro l
            induction l with
            | nil => intro off ks _; rfl
            | cons f l ih =>
              intro off ks hs
              simp only [shp.shpS] at hs
              split at hs
              · split at hs
                · rename_i k1 hk1
                  split at hs
                  · rename_i k2 hk2
                    simp only [List.any_cons, Bool.or_eq_false_iff]
                    exact ⟨by rw [Zfl d f.type k1 hk1 n (by omega)]; simp, ih _ _ hk2⟩
                  · cases hs
                · cases hs
              · cases hs
          simp only
          rw [← Array.any_toList]
          exact key fs.toList 0 ks' hks
        · cases h
    · rename_i m e hk
      rw [hk]
      split at h
      · rename_i ks' hks
        exact Zfl d e ks' hks n (by omega)
      · cases h
    · cases h
theorem Zzq : 9 ≤ P.depth := by unfold Program.depth Made.depth; omega

theorem Zlo (op : BinOp) (t : TypeId) (x y : Operand) (a b : Value) (h1 : op ≠ .eql) (h2 : op ≠ .neq) : (eqGuard op t x y a b).run P w = .ok () w := by
  cases op <;> first | exact absurd rfl h1 | exact absurd rfl h2 | rfl
theorem Zdh (op : BinOp) (t : TypeId) (x y : Operand) {a b : Value} (h : a ≠ .nilIface) (h' : ∀ cs, a ≠ .agg cs) : (eqGuard op t x y a b).run P w = .ok () w := by
  by_cases h1 : op = .eql
  · subst h1
    cases a <;> first | exact absurd rfl h | exact absurd rfl (h' _) | simp [eqGuard]
  · by_cases h2 : op = .neq
    · subst h2
      cases a <;> first | exact absurd rfl h | exact absurd rfl (h' _) | simp [eqGuard]
    · exact Zlo op t x y a b h1 h2
theorem Zku (op : BinOp) {t : TypeId} (x y : Operand) (a b : Value) {ag : Bool} {ks : List SK} (ht : shpB P t ag ks = true) (hn : a ≠ .nilIface) : (eqGuard op t x y a b).run P w = .ok () w := by
  simp only [shpB, Bool.and_eq_true] at ht
  obtain ⟨hag, ht⟩ := ht
  split at ht
  · rename_i l hl
    have hg := Zfl (P := P) 9 t l hl P.depth Zzq
    by_cases h1 : op = .eql
    · subst h1
      cases a <;> first | exact absurd rfl hn | (cases b <;> simp [eqGuard, hg])
    · by_cases h2 : op = .neq
      · subst h2
        cases a <;> first | exact absurd rfl hn | (cases b <;> simp [eqGuard, hg])
      · exact Zlo op t x y a b h1 h2
  · cases ht

theorem Ybz {op : BinOp} {t : TypeId} {k : IntKind} {a b : Int} {v : V} (h1 : op ≠ .shl) (h2 : op ≠ .shr) (hv : binI op k a b = some v) : ∃ x, (binOp op t (.int k a) (.int k b)).run P w = .ok x w ∧ RV X v x := by
  cases op <;> simp only [binI, Option.some.injEq, reduceCtorEq] at hv <;> try (exact absurd rfl h1) <;> try (exact absurd rfl h2)
  case quo =>
    split at hv
    · cases hv
    · rename_i hb; simp only [Option.some.injEq] at hv; subst hv
      exact ⟨_, by simp [binOp, Op.intDiv, hb], .int _ _⟩
  case rem =>
    split at hv
    · cases hv
    · rename_i hb; simp only [Option.some.injEq] at hv; subst hv
      exact ⟨_, by simp [binOp, Op.intDiv, hb], .int _ _⟩
  all_goals subst hv
  all_goals first
    | exact ⟨_, by simp only [binOp, ne_eq, not_true_eq_false, if_false]; rfl, .int _ _⟩
    | exact ⟨_, by simp only [binOp, ne_eq, not_true_eq_false, if_false]; rfl, .bool _⟩

theorem Yfw {ci : Bool → Nat → List V → Option (V × Option (List V × Kd))} {own : List (Nat × Nat)} {id g k : Nat} {op : BinOp} {y z : Opd} {av bv v : V} {x x' : Value} {t : TypeId} {o o' : Operand} {r ws : List Nat}
    (h : Rel C B X H w) (ha : RV X av x) (hb : RV X bv x') (hp : runP (Zaz ci own id g (.bin op y z) [av, bv]) H = some (v, H', r, ws)) :
    SimR C B X v H' g k ((do eqGuard op t o o' x x'; binOp op t x x').run P w) := by
  unfold Zaz at hp
  simp only [binP] at hp
  split at hp
  · rename_i k1 a1 k2 b1
    obtain ⟨hv, rfl⟩ := Zch hp
    cases ha; cases hb
    simp only [Sem.run_bind, Zdh .shl t o o' (a := .int k1 a1) (by simp) (by simp), Result.andThen_ok]
    unfold shI at hv
    split at hv
    · cases hv
    · rename_i hn
      simp only [Option.some.injEq] at hv
      subst hv
      have : (binOp .shl t (.int k1 a1) (.int k2 b1)).run P w = .ok (.int k1 (k1.wrap (a1 * 2 ^ (min b1.toNat k1.bits)))) w := by simp [binOp, Op.shift, hn]
      rw [this]; exact SimR.same h (.int _ _)
  · rename_i k1 a1 k2 b1
    obtain ⟨hv, rfl⟩ := Zch hp
    cases ha; cases hb
    simp only [Sem.run_bind, Zdh .shr t o o' (a := .int k1 a1) (by simp) (by simp), Result.andThen_ok]
    unfold shI at hv
    split at hv
    · cases hv
    · rename_i hn
      simp only [Option.some.injEq] at hv
      subst hv
      have : (binOp .shr t (.int k1 a1) (.int k2 b1)).run P w = .ok (.int k1 (a1.fdiv (2 ^ (min b1.toNat k1.bits)))) w := by simp [binOp, Op.shift, hn]
      rw [this]; exact SimR.same h (.int _ _)
  · rename_i k1 a1 k2 b1 h1 h2
    have hq := Zbw hp
    clear hp
    obtain ⟨e, hp⟩ := hq
    subst e
    obtain ⟨hv, rfl⟩ := Zch hp
    cases ha; cases hb
    simp only [Sem.run_bind, Zdh op t o o' (a := .int k1 a1) (by simp) (by simp), Result.andThen_ok]
    obtain ⟨x, hx, hr⟩ := Ybz (P := P) (w := w) (X := X) (t := t) (fun e => by subst e; exact h1 rfl) (fun e => by subst e; exact h2 rfl) hv
    rw [hx]; exact SimR.same h hr
  · exact (Zaw hp).elim

theorem Yfc {ci : Bool → Nat → List V → Option (V × Option (List V × Kd))} {own : List (Nat × Nat)} {id g k : Nat} {op : BinOp} {ng ag : Bool} {ks : List SK} {y z : Opd} {av bv v : V} {x x' : Value} {t : TypeId} {o o' : Operand} {r ws : List Nat}
    (h : Rel C B X H w) (hop : opNg op ng = true) (ht : shpB P t ag ks = true) (ha : RV X av x) (hb : RV X bv x') (hp : runP (Zaz ci own id g (.eqb ng ag ks y z) [av, bv]) H = some (v, H', r, ws)) :
    SimR C B X v H' g k ((do eqGuard op t o o' x x'; binOp op t x x').run P w) := by
  unfold Zaz at hp
  simp only at hp
  split at hp
  · rename_i b hb'
    obtain ⟨rfl, rfl⟩ := Zau hp
    have hE := Zyl ht ha hb hb' Op.maxDepth (by decide) w
    have hni : x ≠ .nilIface := by
      rintro rfl
      have no : ∀ (q : V), (q = .nili ∨ q = .junk) → eqK ag ks q bv = some b → False := by
        rintro q (rfl | rfl) hq <;> cases ag <;> unfold eqK at hq <;> simp only at hq
        all_goals first
          | (simp at hq; done)
          | (split at hq
             · rename_i k; cases k <;> simp [eqS] at hq
             · simp at hq)
      cases ha with
      | nili => exact no _ (.inl rfl) hb'
      | junk => exact no _ (.inr rfl) hb'
    simp only [Sem.run_bind, Zku op o o' x x' ht hni, Result.andThen_ok]
    have hcases : (binOp op t x x').run P w = .ok (.bool (if ng then !b else b)) w := by
      have hq : (∃ k a k' a', av = .int k a ∧ bv = .int k' a' ∧ k = k' ∧ b = (a == a')) ∨ (∃ s s', av = .str s ∧ bv = .str s' ∧ b = (s == s')) ∨
          (x.oneCell' = true → ∀ k n, x ≠ .int k n) ∧ (∀ s, x ≠ .string s) ∧ (∀ k n, x ≠ .int k n) ∧ (∃ z, z = x ∧ ((∃ b, z = .bool b) ∨ ∃ cs, z = .agg cs)) := by
        unfold eqK at hb'
        cases ag with
        | true =>
          cases av <;> cases bv <;> simp only at hb' <;> try (simp at hb'; done)
          cases ha
          right; right
          exact ⟨by simp, by simp, by simp, _, rfl, .inr ⟨_, rfl⟩⟩
        | false =>
          simp only at hb'
          split at hb'
          · rename_i k
            cases k <;> cases av <;> cases bv <;> simp only [eqS] at hb' <;> try (simp at hb'; done)
            · split at hb'
              · rename_i e
                simp only [Option.some.injEq] at hb'
                exact .inl ⟨_, _, _, _, rfl, rfl, e, hb'.symm⟩
              · simp at hb'
            · cases ha
              right; right
              exact ⟨by simp, by simp, by simp, _, rfl, .inl ⟨_, rfl⟩⟩
            · simp only [Option.some.injEq] at hb'
              exact .inr (.inl ⟨_, _, rfl, rfl, hb'.symm⟩)
          · cases hb'
      rcases hq with ⟨k, a, k', a', rfl, rfl, rfl, rfl⟩ | ⟨s, s', rfl, rfl, rfl⟩ | ⟨_, hs, hi, z, rfl, hz⟩
      · cases ha; cases hb
        cases op <;> cases ng <;> simp [opNg] at hop
        · simp [binOp, Op.intCmp]
        · simp [binOp, Op.intCmp]; rfl
      · cases ha; cases hb
        cases op <;> cases ng <;> simp [opNg] at hop
        · simp [binOp, Op.stringOp, beq_toListBytes]
        · simp [binOp, Op.stringOp, beq_toListBytes]
      · have e1 : binOp .eql t z x' = (do pure (.bool (← Op.equal t z x')) : Sem Value) := by
          rcases hz with ⟨b, rfl⟩ | ⟨cs, rfl⟩ <;> cases x' <;> simp [binOp]
        have e2 : binOp .neq t z x' = (do pure (.bool (!(← Op.equal t z x'))) : Sem Value) := by
          rcases hz with ⟨b, rfl⟩ | ⟨cs, rfl⟩ <;> cases x' <;> simp [binOp]
        cases op <;> cases ng <;> simp [opNg] at hop
        · rw [e1]; simp [Op.equal, hE]
        · rw [e2]; simp [Op.equal, hE]
    rw [hcases]
    exact SimR.same h (.bool _)
  · exact (Zaw hp).elim

theorem Zea {t : TypeId} {x y : Value} {b : Bool} (h : ∀ D, (Op.equalIn (D + 1) t x y).run P w = .ok b w) : (Op.equal t x y).run P w = .ok b w := h 9999
theorem Ygt {ci : Bool → Nat → List V → Option (V × Option (List V × Kd))} {own : List (Nat × Nat)} {id g k nk : Nat} {op : BinOp} {ng : Bool} {y z : Opd} {av bv v : V} {x x' : Value} {t : TypeId} {o o' : Operand} {r ws : List Nat}
    (h : Rel C B X H w) (hop : opNg op ng = true) (ht : nilT P t nk = true) (ha : RV X av x) (hb : RV X bv x') (hp : runP (Zaz ci own id g (.eqn ng nk y z) [av, bv]) H = some (v, H', r, ws)) :
    SimR C B X v H' g k ((do eqGuard op t o o' x x'; binOp op t x x').run P w) := by
  -- what is needed of the two values
  have main : ∀ b : Bool, v = Zgf ng b → H' = H → x ≠ .nilIface → (∀ cs, x ≠ .agg cs) →
      binOp .eql t x x' = (do pure (.bool (← Op.equal t x x')) : Sem Value) → binOp .neq t x x' = (do pure (.bool (!(← Op.equal t x x'))) : Sem Value) →
      (Op.equal t x x').run P w = .ok b w → SimR C B X v H' g k ((do eqGuard op t o o' x x'; binOp op t x x').run P w) := by
    intro b hv hH h1 h2 e1 e2 hE
    subst hv; subst hH
    simp only [Sem.run_bind, Zdh op t o o' h1 h2, Result.andThen_ok]
    have : (binOp op t x x').run P w = .ok (.bool (if ng then !b else b)) w := by
      cases op <;> cases ng <;> simp [opNg] at hop
      · rw [e1]; simp [hE]
      · rw [e2]; simp [hE]
    rw [this]
    exact SimR.same h (.bool _)
  unfold nilT at ht
  unfold Zaz eqnP at hp
  simp only at hp
  split at hp
  · obtain ⟨hv, hH⟩ := Zau hp
    cases ha; cases hb
    split at ht <;> simp at ht
    rename_i e hu
    exact main true hv hH (by simp) (by simp) (by simp [binOp]) (by simp [binOp]) (Zea fun D => by simp [Op.equalIn, run_underlying hu])
  · obtain ⟨hv, hH⟩ := Zau hp
    cases ha; cases hb
    split at ht <;> simp at ht
    rename_i e hu
    exact main true hv hH (by simp) (by simp) (by simp [binOp]) (by simp [binOp]) (Zea fun D => by simp [Op.equalIn, run_underlying hu])
  · obtain ⟨hv, hH⟩ := Zau hp
    cases ha; cases hb
    split at ht <;> simp at ht
    rename_i e1 e hu
    exact main true hv hH (by simp) (by simp) (by simp [binOp]) (by simp [binOp]) (Zea fun D => by simp [Op.equalIn, run_underlying hu])
  · obtain ⟨hv, hH⟩ := Zau hp
    cases ha; cases hb
    split at ht <;> simp at ht
    rename_i e1 e2 e hu
    exact main true hv hH (by simp) (by simp) (by simp [binOp]) (by simp [binOp]) (Zea fun D => by simp [Op.equalIn, run_underlying hu])
  · obtain ⟨hv, hH⟩ := Zau hp
    cases ha; cases hb
    split at ht <;> simp at ht
    rename_i e hu
    exact main false hv hH (by simp) (by simp) (by simp [binOp]) (by simp [binOp]) (Zea fun D => by simp [Op.equalIn, run_underlying hu])
  · obtain ⟨hv, hH⟩ := Zau hp
    cases ha; cases hb
    split at ht <;> simp at ht
    rename_i e hu
    exact main false hv hH (by simp) (by simp) (by simp [binOp]) (by simp [binOp]) (Zea fun D => by simp [Op.equalIn, run_underlying hu])
  · obtain ⟨hv, hH⟩ := Zau hp
    cases ha; cases hb
    split at ht <;> simp at ht
    rename_i e hu
    exact main false hv hH (by simp) (by simp) (by simp [binOp]) (by simp [binOp]) (Zea fun D => by simp [Op.equalIn, run_underlying hu])
  · rename_i cs fs
    obtain ⟨hv, hH⟩ := Zau hp
    cases ha; cases hb
    split at ht <;> simp at ht
    rename_i e hu
    exact main false hv hH (by simp) (by simp) (by simp [binOp]) (by simp [binOp]) (Zea fun D => by simp [Op.equalIn, run_underlying hu])
  · obtain ⟨hv, hH⟩ := Zau hp
    cases ha; cases hb
    split at ht <;> simp at ht
    rename_i e hu
    exact main false hv hH (by simp) (by simp) (by simp [binOp]) (by simp [binOp]) (Zea fun D => by simp [Op.equalIn, run_underlying hu])
  · rename_i i' gi sz off len cap
    obtain ⟨o1, r', ho, hk, _⟩ := Zdv hp
    split at ht <;> simp at ht
    rename_i e hu
    cases hb
    cases ha with
    | sl _ _ _ _ _ _ a c' hg hz hlc hc has hl =>
    cases o1 <;> (try exact (Zaw hk).elim)
    rename_i cs kd
    have hS := hl cs.length (by rw [h.lv]; exact Zbl.2 ⟨_, ho, rfl⟩)
    have hro := (h.obj _ _ _ ho).2
    unfold RO at hro
    have fin : ∀ b : Bool, a.isNone = b → v = Zgf ng b → H' = H → SimR C B X v H' g k ((do eqGuard op t o o' (.slice a len c') (.slice none 0 0); binOp op t (.slice a len c') (.slice none 0 0)).run P w) := by
      intro b hb hv hH
      refine main b hv hH (by simp) (by simp) (by simp [binOp]) (by simp [binOp]) (Zea fun D => ?_)
      cases a <;> simp at hb <;> subst hb <;> simp [Op.equalIn, run_underlying hu]
    cases hm : X.μ i' with
    | none =>
      rw [hm] at hS hro
      obtain ⟨_, _, e1, _⟩ := hS
      obtain ⟨e2, _⟩ := hro
      subst e1; subst e2
      obtain ⟨hv, hH⟩ := Zau hk
      exact fin true rfl hv hH
    | some p =>
      obtain ⟨b, base, tot⟩ := p
      rw [hm] at hS hro
      simp only at hS hro
      have hne : a.isNone = false := by
        rcases hS with ⟨e1, _⟩ | ⟨e1, _⟩
        · rw [e1]; rfl
        · cases a <;> simp at e1 ⊢
      cases kd with
      | nilo => exact absurd rfl hro.1
      | _ => obtain ⟨hv, hH⟩ := Zau hk; exact fin false hne hv hH
  · exact (Zaw hp).elim

theorem sim_un {ci : Bool → Nat → List V → Option (V × Option (List V × Kd))} {own : List (Nat × Nat)} {id g k : Nat} {op : UnOp} {y : Opd} {av v : V} {x : Value} {r ws : List Nat}
    (h : Rel C B X H w) (ha : RV X av x) (hp : runP (Zaz ci own id g (.un op y) [av]) H = some (v, H', r, ws)) : SimR C B X v H' g k ((Op.unary op x).run P w) := by
  unfold Zaz at hp
  obtain ⟨hv, rfl⟩ := Zch hp
  cases op <;> cases av <;> simp only [unV, Option.some.injEq, reduceCtorEq] at hv <;> subst hv <;> cases ha
  · exact SimR.same h (.int _ _)
  · exact SimR.same h (.int _ _)
  · exact SimR.same h (.bool _)

theorem Ycd {ci : Bool → Nat → List V → Option (V × Option (List V × Kd))} {own : List (Nat × Nat)} {id g k : Nat} {kk k0 : IntKind} {y : Opd} {av v : V} {x : Value} {src dst : TypeId} {r ws : List Nat}
    (h : Rel C B X H w) (hs : P.underlying src = some (.int k0)) (hd : P.underlying dst = some (.int kk)) (ha : RV X av x) (hp : runP (Zaz ci own id g (.conv kk y) [av]) H = some (v, H', r, ws)) :
    SimR C B X v H' g k ((convert src dst x).run P w) := by
  unfold Zaz at hp
  cases ha <;> simp only at hp <;> try exact (Zaw hp).elim
  obtain ⟨rfl, rfl⟩ := Zau hp
  rename_i k1 n
  have : (convert src dst (.int k1 n)).run P w = .ok (.int kk (kk.wrap n)) w := by simp [convert, run_underlying hs, run_underlying hd, Conv.intToInt]
  rw [this]; exact SimR.same h (.int _ _)

theorem sim_mx {ci : Bool → Nat → List V → Option (V × Option (List V × Kd))} {own : List (Nat × Nat)} {id g k : Nat} {y z : Opd} {av bv v : V} {x x' : Value} {ts : Array TypeId} {ty : TypeId} {r ws : List Nat}
    (h : Rel C B X H w) (ha : RV X av x) (hb : RV X bv x') (hp : runP (Zaz ci own id g (.mx y z) [av, bv]) H = some (v, H', r, ws)) : SimR C B X v H' g k ((Builtin.max_ ts ty #[x, x']).run P w) := by
  unfold Zaz at hp
  cases ha <;> simp only at hp <;> try exact (Zaw hp).elim
  cases hb <;> simp only at hp <;> try exact (Zaw hp).elim
  obtain ⟨rfl, rfl⟩ := Zau hp
  rename_i k1 a k2 b
  have : (Builtin.max_ ts ty #[.int k1 a, .int k2 b]).run P w = .ok (.int k1 (if b > a then b else a)) w := by simp [Builtin.max_, Builtin.max2]
  rw [this]; exact SimR.same h (.int _ _)
theorem sim_mn {ci : Bool → Nat → List V → Option (V × Option (List V × Kd))} {own : List (Nat × Nat)} {id g k : Nat} {y z : Opd} {av bv v : V} {x x' : Value} {ts : Array TypeId} {ty : TypeId} {r ws : List Nat}
    (h : Rel C B X H w) (ha : RV X av x) (hb : RV X bv x') (hp : runP (Zaz ci own id g (.mn y z) [av, bv]) H = some (v, H', r, ws)) : SimR C B X v H' g k ((Builtin.min_ ts ty #[x, x']).run P w) := by
  unfold Zaz at hp
  cases ha <;> simp only at hp <;> try exact (Zaw hp).elim
  cases hb <;> simp only at hp <;> try exact (Zaw hp).elim
  obtain ⟨rfl, rfl⟩ := Zau hp
  rename_i k1 a k2 b
  have : (Builtin.min_ ts ty #[.int k1 a, .int k2 b]).run P w = .ok (.int k1 (if b < a then b else a)) w := by simp [Builtin.min_, Builtin.min2]
  rw [this]; exact SimR.same h (.int _ _)

/-! ### Slice expressions -/
theorem Zqv {y y' : Nat} {v : V} {x : Value} {n : Nat} {code : BoundsCode} (hv : RV X v x) (h : bnd y v = some n) (hy : y ≤ y') : (Instr.sliceBound x y' code).run P w = .ok n w ∧ n ≤ y := by
  cases hv <;> simp only [bnd, reduceCtorEq] at h
  split at h
  · rename_i hc
    simp only [Option.some.injEq] at h
    subst h
    refine ⟨?_, by omega⟩
    simp only [Instr.sliceBound, asIntOf, Sem.run_bind, Sem.run_pure, Result.andThen_ok]
    rw [if_pos ⟨hc.1, by omega⟩]
    rfl
  · cases h
def OptR (X : Cx) : Option V → Option Value → Prop
  | none, none => True
  | some v, some x => RV X v x
  | _, _ => False
theorem Zni {y y' d : Nat} {o : Option V} {o' : Option Value} {n : Nat} {code : BoundsCode} (ho : OptR X o o') (h : bndO y d o = some n) (hd : d ≤ y) (hy : y ≤ y') :
    (match o' with | some v => Instr.sliceBound v y' code | none => pure d : Sem Nat).run P w = .ok n w ∧ n ≤ y := by
  cases o with
  | none =>
    cases o' with
    | some _ => exact ho.elim
    | none => simp only [bndO, Option.some.injEq] at h; subst h; exact ⟨rfl, hd⟩
  | some v =>
    cases o' with
    | none => exact ho.elim
    | some x => exact Zqv ho h hy
theorem Zoe {len c' l h' : Nat} {cap c2 : Option Nat} {lo hi mx : Option V} {lo' hi' mx' : Option Value} (hlo : OptR X lo lo') (hhi : OptR X hi hi') (hmx : OptR X mx mx') (hlc : len ≤ c') (hc : ∀ c, cap = some c → c' = c)
    (h : cuts len cap lo hi mx = some (l, h', c2)) :
    ∃ m, (Instr.sliceBounds true len c' lo' hi' mx').run P w = .ok (l, h', m) w ∧ l ≤ h' ∧ h' ≤ m ∧ m ≤ c' ∧ (∀ k, c2 = some k → k = m - l ∧ (∀ c, cap = some c → m ≤ c) ∧ (cap = none → m ≤ len)) ∧ (c2 = none → cap = none ∧ m = c' ∧ h' ≤ len) := by
  unfold cuts at h
  have hmost : cap.getD len ≤ c' := by
    cases cap with
    | none => exact hlc
    | some c => have := hc c rfl; simp; omega
  have hlen : len ≤ cap.getD len := by
    cases cap with
    | none => exact Nat.le_refl _
    | some c => have := hc c rfl; simp; omega
  split at h
  · rename_i vm
    split at h
    · rename_i m vh hb
      split at h
      · rename_i hh hb2
        split at h
        · rename_i ll hb3
          simp only [Option.some.injEq, Prod.mk.injEq] at h
          obtain ⟨rfl, rfl, rfl⟩ := h
          cases mx' with
          | none => exact hmx.elim
          | some xm =>
            cases hi' with
            | none => exact hhi.elim
            | some xh =>
              obtain ⟨r1, hm⟩ := Zqv (P := P) (w := w) (code := .slice3Acap) hmx hb hmost
              obtain ⟨r2, hh2⟩ := Zqv (P := P) (w := w) (code := .slice3B) hhi hb2 (Nat.le_refl m)
              obtain ⟨r3, hl3⟩ := Zni (P := P) (w := w) (code := .slice3C) hlo hb3 (Nat.zero_le _) (Nat.le_refl hh)
              refine ⟨m, ?_, hl3, hh2, by omega, fun k hk => ⟨by simpa using hk.symm, fun c hcc => ?_, fun hcc => ?_⟩, fun hk => by simp at hk⟩
              · cases lo' with
                | none => simp only [Sem.run_pure, Result.ok.injEq, and_true] at r3; subst r3; simp [Instr.sliceBounds, Sem.run_bind, r1, r2]
                | some xl => simp only at r3; simp [Instr.sliceBounds, Sem.run_bind, r1, r2, r3]
              · rw [hcc] at hm; exact hm
              · rw [hcc] at hm; exact hm
        · cases h
      · cases h
    · cases h
  · split at h
    · rename_i hh hb2
      split at h
      · rename_i ll hb3
        simp only [Option.some.injEq, Prod.mk.injEq] at h
        obtain ⟨rfl, rfl, rfl⟩ := h
        cases mx' with
        | some _ => exact hmx.elim
        | none =>
          obtain ⟨r2, hh2⟩ := Zni (P := P) (w := w) (code := .sliceAcap) hhi hb2 hlen hmost
          obtain ⟨r3, hl3⟩ := Zni (P := P) (w := w) (code := .sliceB) hlo hb3 (Nat.zero_le _) (Nat.le_refl hh)
          refine ⟨c', ?_, hl3, by omega, Nat.le_refl _, fun k hk => ?_, fun hk => ?_⟩
          · cases hi' with
            | none =>
              simp only [Sem.run_pure, Result.ok.injEq, and_true] at r2; subst r2
              cases lo' with
              | none => simp only [Sem.run_pure, Result.ok.injEq, and_true] at r3; subst r3; simp [Instr.sliceBounds, Sem.run_bind]
              | some xl => simp only at r3; simp [Instr.sliceBounds, Sem.run_bind, r3]
            | some xh =>
              simp only at r2
              cases lo' with
              | none => simp only [Sem.run_pure, Result.ok.injEq, and_true] at r3; subst r3; simp [Instr.sliceBounds, Sem.run_bind, r2]
              | some xl => simp only at r3; simp [Instr.sliceBounds, Sem.run_bind, r2, r3]
          · cases cap with
            | none => simp at hk
            | some c =>
              have := hc c rfl
              simp at hk
              exact ⟨by omega, fun c0 h0 => by cases h0; omega, fun h0 => by cases h0⟩
          · cases cap with
            | none => exact ⟨rfl, rfl, hh2⟩
            | some c => simp at hk
      · cases h
    · cases h

theorem Zhb {k g sz : Nat} {av v : V} {x : Value} {lo hi mx : Option V} {lo' hi' mx' : Option Value} {t e : TypeId} (h : Rel C B X H w) (hu : P.underlying t = some (.slice e)) (hsz : szB P e sz = true)
    (ha : RV X av x) (hlo : OptR X lo lo') (hhi : OptR X hi hi') (hmx : OptR X mx mx') (hv : slcV sz av lo hi mx = some v) : SimR C B X v H g k ((Instr.sliceAt t x lo' hi' mx').run P w) := by
  have hrun : ∀ (a : Option Addr) (len c l hh m : Nat), (Instr.sliceBounds true len c lo' hi' mx').run P w = .ok (l, hh, m) w →
      (Instr.sliceAt t (.slice a len c) lo' hi' mx').run P w = .ok (.slice (if m = l then a else a.map (·.add (l * sz))) (hh - l) (m - l)) w := fun a len c l hh m hb => by
    simp only [Instr.sliceAt, Instr.slice, Sem.run_bind, run_underlying hu, Result.andThen_ok, hb, Zbh hsz, Sem.run_pure]
  cases ha <;> simp only [slcV, reduceCtorEq] at hv
  case nils =>
    cases hcu : cuts 0 (some 0) lo hi mx with
    | none => rw [hcu] at hv; simp at hv
    | some q =>
      obtain ⟨l, hh, c2⟩ := q
      rw [hcu] at hv
      simp only [Option.map_some, Option.some.injEq] at hv
      subst hv
      obtain ⟨m, hb, h1, h2, h3, _⟩ := Zoe (P := P) (w := w) (c' := 0) hlo hhi hmx (Nat.le_refl 0) (by simp) hcu
      rw [hrun _ _ _ _ _ _ hb]
      obtain rfl : m = 0 := by omega
      obtain rfl : hh = 0 := by omega
      obtain rfl : l = 0 := by omega
      exact SimR.same h .nils
  case arr cells sz' len cap b o0 c' xs hz hpu hn hc hlc h1 h2 =>
    split at hv
    · rename_i es; subst es
      split at hv
      · rename_i l hh c2 hcu
        split at hv
        · rename_i hhl
          simp only [Option.some.injEq] at hv
          subst hv
          obtain ⟨m, hb, q1, q2, q3, q4, q5⟩ := Zoe (P := P) (w := w) hlo hhi hmx hlc hc hcu
          rw [hrun _ _ _ _ _ _ hb]
          have hmul : l * sz' + (hh - l) * sz' ≤ cells.length := by rw [hn, ← Nat.add_mul]; exact Nat.mul_le_mul_right _ (by omega)
          have hpur : Zak.pureL (cut cells (l * sz') ((hh - l) * sz')) = true := Ztp fun v hv => by
            obtain ⟨i, hi⟩ := List.mem_iff_getElem?.1 hv
            exact Zcd hpu (Zec hi).2
          have hcc : ∀ c, c2 = some c → m - l = c := fun c hcc => ((q4 c hcc).1).symm
          by_cases hml : m = l
          · rw [if_pos hml]
            have e0 : hh - l = 0 := by omega
            refine SimR.same h (.arr _ _ _ _ b o0 _ xs hz hpur (by rw [Zbp hmul]) hcc (by omega) (fun i v hv => ?_) (fun i v hv => ?_))
            · have := (Zec hv).1; rw [e0] at this; omega
            · have := (Zec hv).1; rw [e0] at this; omega
          · rw [if_neg hml]
            simp only [Option.map_some, Zey]
            refine SimR.same h (.arr _ _ _ _ b (o0 + l * sz') _ (fun i => xs (l * sz' + i)) hz hpur (by rw [Zbp hmul]) hcc (by omega) (fun i v hv => ?_) (fun i v hv => ?_))
            · have := h1 _ _ (Zec hv).2
              rw [Nat.add_assoc]; exact this
            · exact h2 _ _ (Zec hv).2
        · cases hv
      · cases hv
    · cases hv
  case sl i gi sz' off len cap a c' hg hz hlc hc has hl =>
    split at hv
    · rename_i es; subst es
      split at hv
      · rename_i l hh c2 hcu
        simp only [Option.some.injEq] at hv
        subst hv
        obtain ⟨m, hb, q1, q2, q3, q4, q5⟩ := Zoe (P := P) (w := w) hlo hhi hmx hlc hc hcu
        rw [hrun _ _ _ _ _ _ hb]
        refine SimR.same h (.sl i gi sz' _ _ _ _ _ hg hz (by omega) (fun c hcc => ((q4 c hcc).1).symm) ?_ fun n hn => ?_)
        · intro hpos
          have hml : ¬ m = l := by omega
          rw [if_neg hml]
          have := has (by omega)
          cases a <;> simp at this ⊢
        · have hS := hl n hn
          unfold SlR at hS ⊢
          cases hm : X.μ i with
          | none =>
            rw [hm] at hS
            simp only at hS ⊢
            obtain ⟨s1, s2, s3, s4, s5, s6⟩ := hS
            subst s3
            have hm0 : m = 0 := by omega
            refine ⟨by omega, fun c hcc => by have := (q4 c hcc).1; omega, by split <;> rfl, by omega, s5, ?_⟩
            have : l = 0 := by omega
            subst this
            omega
          | some p =>
            obtain ⟨b, base, tot⟩ := p
            rw [hm] at hS
            simp only at hS ⊢
            have hcov : c2 = none → cap = none ∧ m = c' := fun hk => ⟨(q5 hk).1, (q5 hk).2.1⟩
            have mm : ∀ p q r : Nat, p + q ≤ r → p * sz' + q * sz' ≤ r * sz' := fun p q r hpq => by rw [← Nat.add_mul]; exact Nat.mul_le_mul_right _ hpq
            rcases hS with ⟨s1, s2, s3, s4, s5⟩ | ⟨s1, s2, s3, s4⟩
            · by_cases hml : m = l
              · right
                rw [if_pos hml]
                refine ⟨⟨_, _, s1⟩, by omega, by omega, fun hk => ?_⟩
                obtain ⟨e1, e2⟩ := hcov hk
                have := s5 e1
                rw [← e2, hml] at this
                exact this
              · left
                rw [if_neg hml, s1]
                simp only [Option.map_some, Zey]
                have k1 := mm l (m - l) c' (by omega)
                have k2 : l * sz' + (hh - l) * sz' ≤ n - off := by
                  by_cases hcap : ∃ c, cap = some c
                  · obtain ⟨c, hcap⟩ := hcap
                    have := s4 c hcap
                    have hcc := hc c hcap
                    have := mm l (hh - l) c (by omega)
                    omega
                  · have hcn : cap = none := by cases cap with | none => rfl | some c => exact absurd ⟨c, rfl⟩ hcap
                    have hle : hh ≤ len := by
                      cases c2 with
                      | none => exact (q5 rfl).2.2
                      | some k => have := (q4 k rfl).2.2 hcn; omega
                    have := mm l (hh - l) len (by omega)
                    omega
                have hoff : off ≤ n := by
                  have : 0 ≤ len * sz' := Nat.zero_le _
                  omega
                refine ⟨by rw [Nat.add_assoc], by omega, by omega, fun c hcc => ?_, fun hk => ?_⟩
                · obtain ⟨e1, e2, e3⟩ := q4 c hcc
                  subst e1
                  by_cases hcap : ∃ c, cap = some c
                  · obtain ⟨c, hcap⟩ := hcap
                    have hmc := e2 c hcap
                    have := s4 c hcap
                    have := mm l (m - l) c (by omega)
                    omega
                  · have hcn : cap = none := by cases cap with | none => rfl | some c => exact absurd ⟨c, rfl⟩ hcap
                    have := e3 hcn
                    have := mm l (m - l) len (by omega)
                    omega
                · obtain ⟨e1, e2⟩ := hcov hk
                  have h5 := s5 e1
                  have : l * sz' + (m - l) * sz' = c' * sz' := by rw [← Nat.add_mul]; congr 1; omega
                  omega
            · right
              have hm0 : m = 0 := by omega
              have hl0 : l = 0 := by omega
              subst hm0; subst hl0
              refine ⟨by simpa using s1, by omega, by omega, fun hk => ?_⟩
              have := s4 (hcov hk).1
              omega
      · cases hv
    · cases hv
end Go.AM
