/- Regions in the order of their text. -/
import Derived.Test.YteooegmokbbeoaaGauJ
set_option linter.unusedSimpArgs false
set_option linter.unusedVariables false
namespace Go.AM
open Go
variable {B : Base} {X : Cx} {H H' : Heap} {w w' : World} {P : Program} {fm : Nat → Nat} {AP : Zce} {E : AC → St → Option (Ex × St)} {ops : Array Oper}

theorem Zin {ci : Bool → Nat → List V → Option (V × Option (List V × Kd))} {cr : V → List V → Heap → Nat → Option (V × Heap × Nat)} {base γ : Nat} : ∀ {rs : List RS} {s s' : St}, Zcm ci cr base γ rs s = some s' → s'.rd = s.rd
  | [], s, s', h => by simp [Zcm] at h; rw [h]
  | r :: rs, s, s', h => by
    unfold Zcm at h
    split at h
    · split at h
      · cases h
      · have := Zin h; exact this
      · split at h
        · have := Zin h; exact this
        · cases h
    · split at h
      · have := Zin h; exact this
      · cases h

theorem isRaw_not {op : Aop} (h : ∀ f as, op ≠ .call .raw f as) : Zho op = false := by
  unfold Zho
  split
  · exact absurd rfl (h _ _)
  · rfl

set_option maxHeartbeats 1000000 in
theorem Zqa (hP : PR P fm AP) (hE : Zfa P fm E) {base γ0 tot : Nat} {Q : Exit → Act → World → Prop} (l : Option Nat) (m : Nat) : ∀ (rs : List RS) (os : List Oper) (kat j : Nat) (s s' : St) (X : Cx) (w : World) (a : Act), (∀ i o, os[i]? = some o → ops[j + i]? = some o) →
    Zcm (Zaq AP E) (Zek AP E) base γ0 rs s = some s' → Zhm P fm ops tot kat rs os = true → Rel (CC P fm) B X s.H w → X.fm = fm → EnvR X s.env a.tmps → (∀ i k, X.iss i k → k < s.γ) → γ0 + tot ≤ s.γ → (∀ i k, X.iss i k → k < γ0 + kat ∨ γ0 + tot ≤ k) →
    (∀ Y a' w', X.le Y → Rel (CC P fm) B Y s'.H w' → EnvR Y s'.env a'.tmps → (∀ i k, Y.iss i k → k < s'.γ) → (∀ i k, Y.iss i k → X.iss i k ∨ γ0 + kat ≤ k) → s.γ ≤ s'.γ → a'.defers = a.defers → Q .normal a' w') →
    wpOpsIn (FF l) m P ops Q (List.range' j os.length) a w
  | [], [], kat, j, s, s', X, w, a, _, hr, _, h, hfm, he, hi, ht, hfr, hQ => by
    simp only [Zcm, Option.some.injEq] at hr
    subst hr
    exact hQ X a w (Cx.le.refl X) h he hi (fun _ _ hk => .inl hk) (Nat.le_refl _) rfl
  | [], _ :: _, _, _, _, _, _, _, _, _, _, hc, _, _, _, _, _, _, _ => by simp [Zhm] at hc
  | _ :: _, [], _, _, _, _, _, _, _, _, _, hc, _, _, _, _, _, _, _ => by simp [Zhm] at hc
  | r :: rs, o :: os, kat, j, s, s', X, w, a, hops, hr, hc, h, hfm, he, hi, ht, hfr, hQ => by
    have hlast : ∀ (rs : List RS) (os : List Oper) (k : Nat), Zhm P fm ops tot k rs os = true → k ≤ tot := by
      intro rs
      induction rs with
      | nil => intro os k h; cases os <;> simp [Zhm] at h; exact h
      | cons r rs ih => intro os k h; cases os <;> simp [Zhm] at h; have := ih _ _ h.2; omega
    simp only [Zhm, Bool.and_eq_true, beq_iff_eq] at hc
    obtain ⟨⟨⟨⟨hd, hk⟩, hg⟩, hat⟩, hc⟩ := hc
    have hfit := hlast _ _ _ hc
    have ho : ops[j]? = some o := hops 0 o rfl
    have hops' : ∀ i o', os[i]? = some o' → ops[j + 1 + i]? = some o' := fun i o' h' => by
      have := hops (i + 1) o' (by simpa using h')
      rw [← this]; congr 1; omega
    rw [List.length_cons, List.range'_succ, wpOpsIn_cons]
    -- the rest
    have rest : ∀ (s1 : St) (Y : Cx) (a' : Act) (w' : World), Zcm (Zaq AP E) (Zek AP E) base γ0 rs s1 = some s' → X.le Y → Rel (CC P fm) B Y s1.H w' → EnvR Y s1.env a'.tmps → a'.defers = a.defers → (∀ i k, Y.iss i k → k < s1.γ) → s.γ ≤ s1.γ →
        (∀ i k, Y.iss i k → X.iss i k ∨ (γ0 + kat ≤ k ∧ k < γ0 + (kat + room r.own r.op)) ∨ s.γ ≤ k) → wpOpsIn (FF l) m P ops Q (List.range' (j + 1) os.length) a' w' := by
      intro s1 Y a' w' hr1 hle hrel he1 hdf hi1 hγ hnew
      refine Zqa hP hE l m rs os _ (j + 1) s1 s' Y w' a' hops' hr1 hc hrel (by rw [hle.fm]; exact hfm) he1 hi1 (by omega) (fun i k hk => ?_) fun Z a2 w2 z1 z2 z3 z4 z5 z6 z7 => ?_
      · rcases hnew i k hk with hk | hk | hk
        · rcases hfr i k hk with hk | hk
          · left; omega
          · exact .inr hk
        · left; omega
        · right; omega
      · refine hQ Z a2 w2 (hle.trans z1) z2 z3 z4 (fun i k hk => ?_) (Nat.le_trans hγ z6) (z7.trans hdf)
        rcases z5 i k hk with hk | hk
        · rcases hnew i k hk with hk | hk | hk
          · exact .inl hk
          · right; omega
          · right; omega
        · right; omega
    unfold Zcm at hr
    split at hr
    · -- a raw call
      rename_i fo ao hop
      rw [hop] at hk
      unfold wpOpIn
      simp only [ho]
      split at hr
      · cases hr
      · rename_i hgf
        rw [Zic he hg hgf]
        exact ⟨fun f _ => Zqm l f, rest _ X _ w hr (Cx.le.refl X) h (by rw [hd]; exact he.put Ycz) (Zgx _ _ _) hi (Nat.le_refl _) fun _ _ hk => .inl hk⟩
      · rename_i hgf
        rw [Zic he hg hgf]
        split at hr
        · rename_i v H' γ' hcall
          exact Zrw hP hE hk h hfm he hi hcall l m fun Y x w' y1 y2 y3 y4 y5 y6 => rest _ Y _ w' hr y1 y2 (by rw [hd]; exact (he.weak y1).put y3) (Zgx _ _ _) y4 y6 fun i k hk => by
            rcases y5 i k hk with hk | hk
            · exact .inl hk
            · exact .inr (.inr hk)
        · cases hr
    · rename_i hnr
      split at hr
      · rename_i e1 H1 r1 w1 hs
        refine Zmm hP hE ho hd hk hg h hfm he (fun i k hk => ?_) hs l m fun Y a' w' y1 y2 y3 y4 y5 => rest _ Y a' w' hr y1 y2 y3 y4 (fun i k hk => ?_) (Nat.le_refl _) fun i k hk => ?_
        · rw [hat]
          rcases hfr i k hk with hk | hk
          · exact .inl hk
          · right; omega
        · show k < s.γ
          rcases y5 i k hk with hk | hk
          · exact hi i k hk
          · rw [hat] at hk; omega
        · rcases y5 i k hk with hk | hk
          · exact .inl hk
          · rw [hat] at hk; right; left; omega
      · cases hr
end Go.AM

set_option linter.unusedSimpArgs false
set_option linter.unusedVariables false
namespace Go.AM
open Go
variable {B : Base} {X : Cx} {H H' : Heap} {w w' : World} {P : Program} {fm : Nat → Nat} {AP : Zce} {E : AC → St → Option (Ex × St)} {ops : Array Oper}
abbrev CI := Bool → Nat → List V → Option (V × Option (List V × Kd))
abbrev Lg := List Nat × List Nat
variable {ci : CI} {base γ : Nat}

/-! ### What a plan sees -/
theorem Zdy : ∀ {p : Plan} {H : Heap} {v : V} {H' : Heap} {r ws : List Nat}, runP p H = some (v, H', r, ws) → H'.length = H.length ∧ ∀ i, i ∉ ws → H'[i]? = H[i]?
  | .ret v0, H, v, H', r, ws, h => by obtain ⟨_, rfl⟩ := Zau h; exact ⟨rfl, fun _ _ => rfl⟩
  | .no, _, _, _, _, _, h => (Zaw h).elim
  | .rd id g k, H, v, H', r, ws, h => by
    obtain ⟨o, r', _, hk, _⟩ := Zdv h
    exact Zdy hk
  | .wr id o k, H, v, H', r, ws, h => by
    obtain ⟨ws', hid, hk, rfl⟩ := Zcj h
    obtain ⟨h1, h2⟩ := Zdy hk
    refine ⟨by simpa using h1, fun i hi => ?_⟩
    simp at hi
    rw [h2 i hi.2, List.getElem?_set_ne (fun e => hi.1 e.symm)]
theorem Zhi : ∀ {p : Plan} {H K : Heap} {v : V} {H' : Heap} {r ws : List Nat}, runP p H = some (v, H', r, ws) → K.length = H.length → (∀ i ∈ r, K[i]? = H[i]?) →
    ∃ K', runP p K = some (v, K', r, ws) ∧ ∀ i ∈ ws, K'[i]? = H'[i]?
  | .ret v0, H, K, v, H', r, ws, h, _, _ => by
    simp only [runP, Option.some.injEq, Prod.mk.injEq] at h
    obtain ⟨rfl, rfl, rfl, rfl⟩ := h
    exact ⟨K, rfl, by simp⟩
  | .no, _, _, _, _, _, _, h, _, _ => (Zaw h).elim
  | .rd id g k, H, K, v, H', r, ws, h, hl, hr => by
    obtain ⟨o, r', ho, hk, rfl⟩ := Zdv h
    obtain ⟨K', h1, h2⟩ := Zhi hk hl (fun i hi => hr i (by simp [hi]))
    have hg : getH K id g = some o := Zco.2 (by rw [hr id (by simp)]; exact ho)
    exact ⟨K', by simp only [runP, hg, h1], h2⟩
  | .wr id o k, H, K, v, H', r, ws, h, hl, hr => by
    obtain ⟨ws', hid, hk, rfl⟩ := Zcj h
    obtain ⟨K', h1, h2⟩ := Zhi (K := K.set id o) hk (by simp [hl]) (fun i hi => by
      rw [List.getElem?_set, List.getElem?_set, hl, hr i hi])
    have hid' : id < K.length := by omega
    refine ⟨K', by simp only [runP, hid', if_true, h1], fun i hi => ?_⟩
    by_cases hw : i ∈ ws'
    · exact h2 i hw
    · have hi' : i = id := by
        rcases List.mem_cons.1 hi with e | e
        · exact e
        · exact absurd e hw
      subst hi'
      rw [(Zdy h1).2 i hw, (Zdy hk).2 i hw, List.getElem?_set, List.getElem?_set, hl]
      simp

/-- Two plans of which neither sees what the other writes. -/
theorem Zwt {p q : Plan} {H1 H2 : Heap} {v u : V} {lp lq : Lg} (hp : runP p H = some (v, H1, lp.1, lp.2)) (hq : runP q H1 = some (u, H2, lq.1, lq.2)) (hi : Zkd lp lq = true) :
    ∃ K, runP q H = some (u, K, lq.1, lq.2) ∧ runP p K = some (v, H2, lp.1, lp.2) := by
  simp only [Zkd, disj, Bool.and_eq_true, List.all_eq_true, Bool.not_eq_true', List.contains_eq_mem] at hi
  have d1 : ∀ i ∈ lp.2, i ∉ lq.1 ∧ i ∉ lq.2 := fun i h => by have := hi.1 i h; simp at this; exact this
  have d2 : ∀ i ∈ lq.2, i ∉ lp.1 := fun i h => by have := hi.2 i h; simpa using this
  obtain ⟨fp1, fp2⟩ := Zdy hp
  obtain ⟨fq1, fq2⟩ := Zdy hq
  obtain ⟨K, k1, k2⟩ := Zhi (K := H) hq fp1.symm (fun i hi => (fp2 i (fun hm => (d1 i hm).1 hi)).symm)
  obtain ⟨fk1, fk2⟩ := Zdy k1
  obtain ⟨L, l1, l2⟩ := Zhi (K := K) hp fk1 (fun i hi => fk2 i (fun hm => d2 i hm hi))
  obtain ⟨fl1, fl2⟩ := Zdy l1
  refine ⟨K, k1, ?_⟩
  have : L = H2 := by
    apply List.ext_getElem?
    intro i
    by_cases hw : i ∈ lp.2
    · rw [l2 i hw, fq2 i (d1 i hw).2]
    · rw [fl2 i hw]
      by_cases hw2 : i ∈ lq.2
      · rw [k2 i hw2]
      · rw [fk2 i hw2, fq2 i hw2, fp2 i hw]
  rw [← this]; exact l1

/-! ### Two operations -/
theorem Zpr {e : List V} {d : Option Nat} {v : V} {x : Opd} (h : ∀ n, x = .t n → d ≠ some n) : Zbz (putO e d v) x = Zbz e x := by
  cases x with
  | c v => rfl
  | t n =>
    cases d with
    | none => rfl
    | some d =>
      have hne : ¬ n = d := fun e => h n rfl (by rw [e])
      simp only [Zbz, putO, Ztg, hne, false_and, if_false]
theorem Zub {l : List Opd} {n : Nat} (h : Opd.t n ∈ l) : n ∈ Zxu l := by
  unfold Zxu
  exact List.mem_filterMap.2 ⟨.t n, h, rfl⟩
theorem Zow {r : RS} {e : List V} {d : Option Nat} {v : V} (h : ∀ n, d = some n → n ∉ r.looks) : Zep (putO e d v) r.grd = Zep e r.grd ∧ Zdc ci r base γ (putO e d v) = Zdc ci r base γ e := by
  have h1 : ∀ x ∈ r.op.opds, Zbz (putO e d v) x = Zbz e x := fun x hx => Zpr fun n hn hd => by
    subst hn
    exact h n hd (List.mem_append_left _ (Zub hx))
  refine ⟨?_, ?_⟩
  · cases hg : r.grd with
    | none => rfl
    | some q =>
      obtain ⟨t, want⟩ := q
      have : getE (putO e d v) t = getE e t := Zpr (x := .t t) fun n hn hd => by
        injection hn with hn
        subst hn
        exact h t hd (List.mem_append_right _ (by rw [hg]; simp))
      simp only [Zep, this]
  · unfold Zdc
    have : r.op.opds.map (Zbz (putO e d v)) = r.op.opds.map (Zbz e) := List.map_congr_left h1
    rw [this]
theorem Zxt {e : List V} {d d' : Option Nat} {v u : V} (h : ∀ n, d = some n → d' ≠ some n) : putO (putO e d v) d' u = putO (putO e d' u) d v := by
  cases d with
  | none => rfl
  | some d =>
    cases d' with
    | none => rfl
    | some d' =>
      have : d ≠ d' := fun e => h d rfl (by rw [e])
      simp only [putO, putE]
      exact List.set_comm _ _ (fun e => this e)

/-- What a step does to the environment; what it does to the heap. -/
theorem Zll {r : RS} {e e' : List V} {lg : Lg} (h : Zda ci r base γ e H = some (e', H', lg.1, lg.2)) : ∃ v, e' = putO e r.dst v ∧
    ((Zep e r.grd = some false ∧ v = .tup [] ∧ H' = H ∧ lg = ([], [])) ∨ (Zep e r.grd = some true ∧ Zho r.op = false ∧ runP (Zdc ci r base γ e) H = some (v, H', lg.1, lg.2))) := by
  unfold Zda at h
  split at h
  · cases h
  · rename_i hg
    simp only [Option.some.injEq, Prod.mk.injEq] at h
    obtain ⟨rfl, rfl, h3, h4⟩ := h
    exact ⟨_, rfl, .inl ⟨hg, rfl, rfl, Prod.ext h3.symm h4.symm⟩⟩
  · rename_i hg
    split at h
    · cases h
    · rename_i hraw
      split at h
      · rename_i v H1 r1 w1 hrun
        simp only [Option.some.injEq, Prod.mk.injEq] at h
        obtain ⟨rfl, rfl, h3, h4⟩ := h
        exact ⟨v, rfl, .inr ⟨hg, by simpa using hraw, by rw [hrun, h3, h4]⟩⟩
      · cases h
theorem Zia {r : RS} {e : List V} (hg : Zep e r.grd = some false) : Zda ci r base γ e H = some (putO e r.dst (.tup []), H, [], []) := by unfold Zda; rw [hg]
theorem Zgz {r : RS} {e : List V} {v : V} {lg : Lg} (hg : Zep e r.grd = some true) (hr : Zho r.op = false) (hp : runP (Zdc ci r base γ e) H = some (v, H', lg.1, lg.2)) : Zda ci r base γ e H = some (putO e r.dst v, H', lg.1, lg.2) := by
  unfold Zda
  rw [hg]
  simp only [hr, Bool.false_eq_true, if_false, hp]

theorem Zwm {x y : RS} {lx ly : Lg} {e e1 e2 : List V} {H1 H2 : Heap} (hx : Zda ci x base γ e H = some (e1, H1, lx.1, lx.2)) (hy : Zda ci y base γ e1 H1 = some (e2, H2, ly.1, ly.2)) (ha : Zim x y = true) (hi : Zkd lx ly = true) :
    ∃ e' K, Zda ci y base γ e H = some (e', K, ly.1, ly.2) ∧ Zda ci x base γ e' K = some (e2, H2, lx.1, lx.2) := by
  simp only [Zim, Bool.and_eq_true] at ha
  obtain ⟨ha1, ha2⟩ := ha
  have a1 : ∀ n, x.dst = some n → n ∉ y.looks ∧ y.dst ≠ some n := fun n hn => by
    rw [hn] at ha1
    simp only [Bool.and_eq_true, Bool.not_eq_true', List.contains_eq_mem, decide_eq_false_iff_not] at ha1
    refine ⟨ha1.1, fun hy => ?_⟩
    rw [hy] at ha1
    simp at ha1
  have a2 : ∀ n, y.dst = some n → n ∉ x.looks := fun n hn => by
    rw [hn] at ha2
    simpa using ha2
  obtain ⟨v, rfl, px⟩ := Zll hx
  obtain ⟨u, rfl, py⟩ := Zll hy
  obtain ⟨gy, qy⟩ := Zow (ci := ci) (base := base) (γ := γ) (r := y) (e := e) (d := x.dst) (v := v) (fun n hn => (a1 n hn).1)
  obtain ⟨gx, qx⟩ := Zow (ci := ci) (base := base) (γ := γ) (r := x) (e := e) (d := y.dst) (v := u) a2
  rw [gy, qy] at py
  have hcomm : putO (putO e x.dst v) y.dst u = putO (putO e y.dst u) x.dst v := Zxt fun n hn => (a1 n hn).2
  rw [hcomm]
  refine ⟨putO e y.dst u, ?_⟩
  rcases py with ⟨g1, rfl, rfl, rfl⟩ | ⟨g1, g2, g3⟩
  · refine ⟨H, Zia g1, ?_⟩
    rcases px with ⟨f1, rfl, rfl, rfl⟩ | ⟨f1, f2, f3⟩
    · exact Zia (by rw [gx]; exact f1)
    · exact Zgz (by rw [gx]; exact f1) f2 (by rw [qx]; exact f3)
  · rcases px with ⟨f1, rfl, rfl, rfl⟩ | ⟨f1, f2, f3⟩
    · exact ⟨H2, Zgz g1 g2 g3, Zia (by rw [gx]; exact f1)⟩
    · obtain ⟨K, k1, k2⟩ := Zwt f3 g3 hi
      exact ⟨K, Zgz g1 g2 k1, Zgz (by rw [gx]; exact f1) f2 (by rw [qx]; exact k2)⟩

/-! ### The Zcc region -/
def RunL (ci : CI) (base γ : Nat) : List (Nat × RS × Lg) → List V → Heap → List V → Heap → Prop
  | [], e, H, e', H' => e' = e ∧ H' = H
  | q :: l, e, H, e', H' => ∃ e1 H1, Zda ci q.2.1 base γ e H = some (e1, H1, q.2.2.1, q.2.2.2) ∧ RunL ci base γ l e1 H1 e' H'
def Ind (dep : List (List Nat)) (p q : Nat × RS × Lg) : Prop := (dep.getD q.1 []).contains p.1 = true ∨ (Zim p.2.1 q.2.1 = true ∧ Zkd p.2.2 q.2.2 = true)

theorem RunL.front {x : Nat × RS × Lg} {l : List (Nat × RS × Lg)} : ∀ {as : List (Nat × RS × Lg)} {e e' : List V} {H H' : Heap}, RunL ci base γ (as ++ x :: l) e H e' H' → (∀ a ∈ as, Zim a.2.1 x.2.1 = true ∧ Zkd a.2.2 x.2.2 = true) →
    ∃ e1 H1, Zda ci x.2.1 base γ e H = some (e1, H1, x.2.2.1, x.2.2.2) ∧ RunL ci base γ (as ++ l) e1 H1 e' H'
  | [], e, e', H, H', h, _ => h
  | a :: as, e, e', H, H', h, hi => by
    obtain ⟨e1, H1, h1, h2⟩ := h
    obtain ⟨e2, H2, h3, h4⟩ := RunL.front h2 (fun b hb => hi b (by simp [hb]))
    obtain ⟨e3, K, k1, k2⟩ := Zwm h1 h3 (hi a (by simp)).1 (hi a (by simp)).2
    exact ⟨e3, K, k1, e2, H2, k2, h4⟩

theorem Ydb {D : List (List Nat)} : ∀ (rs : List RS) (i : Nat) (dep : List (List Nat)) (past : List (Nat × RS × Lg)) (e e' : List V) (H H' : Heap), runD ci base γ i dep rs past e H = some (e', H') → dep = D.drop i →
    ∃ L : List (Nat × RS × Lg), RunL ci base γ L e H e' H' ∧ (∀ q ∈ L, ∀ p ∈ past, Ind D p q) ∧ L.Pairwise (Ind D) ∧ L.map (·.1) = List.range' i rs.length ∧ L.map (·.2.1) = rs
  | [], i, dep, past, e, e', H, H', h, _ => by
    simp only [runD, Option.some.injEq, Prod.mk.injEq] at h
    exact ⟨[], ⟨h.1.symm, h.2.symm⟩, by simp, List.Pairwise.nil, rfl, rfl⟩
  | r :: rs, i, dep, past, e, e', H, H', h, hdep => by
    unfold runD at h
    split at h
    · rename_i e1 H1 a b hs
      split at h
      · rename_i hap
        obtain ⟨L, l1, l2, l3, l4, l5⟩ := Ydb (D := D) rs (i + 1) dep.tail _ e1 e' H1 H' h (by rw [hdep]; simp)
        have hd : dep.headD [] = D.getD i [] := by rw [hdep]; simp [List.headD_eq_head?_getD, List.head?_drop, List.getD_eq_getElem?_getD]
        have hall : ∀ (past : List (Nat × RS × Lg)), Zcw (dep.headD []) r (a, b) past = true → ∀ p ∈ past, Ind D p (i, r, (a, b)) := by
          intro past
          induction past with
          | nil => intro _ p hp; simp at hp
          | cons q past ih =>
            intro hq p hp
            obtain ⟨j, rj, lj⟩ := q
            simp only [Zcw, Bool.and_eq_true, Bool.or_eq_true] at hq
            rcases List.mem_cons.1 hp with rfl | hp
            · rcases hq.1 with h1 | h1
              · left; rw [hd] at h1; exact h1
              · right; exact h1
            · exact ih hq.2 p hp
        refine ⟨(i, r, (a, b)) :: L, ⟨e1, H1, hs, l1⟩, fun q hq p hp => ?_, List.Pairwise.cons (fun q hq => l2 q hq _ (by simp)) l3, by simp [l4, List.range'_succ], by simp [l5]⟩
        rcases List.mem_cons.1 hq with rfl | hq
        · exact hall past hap p hp
        · exact l2 q hq p (by simp [hp])
      · cases h
    · cases h
end Go.AM

set_option linter.unusedSimpArgs false
set_option linter.unusedVariables false
namespace Go.AM
open Go
variable {B : Base} {X : Cx} {H H' : Heap} {w w' : World} {P : Program} {fm : Nat → Nat} {AP : Zce} {E : AC → St → Option (Ex × St)} {ops : Array Oper} {base γ : Nat} {dep : List (List Nat)}

/-- What is known of an operation that is still to come. -/
def Todo (P : Program) (fm : Nat → Nat) (ops : Array Oper) (dep : List (List Nat)) (q : Nat × RS × Lg) : Prop :=
  ∃ o, ops[q.1]? = some o ∧ q.2.1.dst = o.dst ∧ Ziw P fm q.2.1.op o.op = true ∧ grdB ops q.2.1.grd o.guard = true ∧ (∀ j, (dep.getD q.1 []).contains j = true → ∃ ed ∈ o.after, Region.binds .any ed = true ∧ (ed.on = j ∨ (dep.getD ed.on []).contains j = true)) ∧
    ∀ ed ∈ o.after, Region.binds .any ed = true → ed.on < q.1

theorem Zkq {listed : Array Bool} {i : Nat} : i ∈ Region.ready .any ops listed ↔ i < ops.size ∧ listed.getD i true = false ∧ ∃ o, ops[i]? = some o ∧ ∀ ed ∈ o.after, Region.binds .any ed = true → listed.getD ed.on false = true := by
  unfold Region.ready
  rw [List.mem_filter, List.mem_range]
  constructor
  · rintro ⟨h1, h2⟩
    simp only [Bool.and_eq_true, Bool.not_eq_true'] at h2
    refine ⟨h1, h2.1, ops[i], Array.getElem?_eq_getElem h1, fun ed hed hb => ?_⟩
    have := h2.2
    rw [Array.getElem?_eq_getElem h1] at this
    simp only [Option.map_some, Option.getD_some, Array.all_eq_true_iff_forall_mem] at this
    have := this ed hed
    rw [hb] at this
    simpa using this
  · rintro ⟨h1, h2, o, h3, h4⟩
    refine ⟨h1, ?_⟩
    simp only [h2, h3, Option.map_some, Option.getD_some, Bool.not_false, Bool.true_and, Array.all_eq_true_iff_forall_mem]
    intro ed hed
    cases hb : Region.binds .any ed with
    | false => rfl
    | true => simp [h4 ed hed hb]

set_option maxHeartbeats 1000000 in
theorem Zoq (hP : PR P fm AP) (hE : Zfa P fm E) {e' : List V} {Q : Exit → Act → World → Prop} (l : Option Nat) (m : Nat) : ∀ (n : Nat) (L : List (Nat × RS × Lg)) (listed : Array Bool) (X : Cx) (w : World) (a : Act) (e : List V) (H : Heap), L.length = n →
    RunL (Zaq AP E) base γ L e H e' H' → L.Pairwise (Ind dep) → (∀ q ∈ L, Todo P fm ops dep q) → L.Pairwise (fun p q => p.1 < q.1) → L.Pairwise (fun p q => p.2.1.at_ + room p.2.1.own p.2.1.op ≤ q.2.1.at_) →
    (∀ q ∈ L, Zgh X (γ + q.2.1.at_) (room q.2.1.own q.2.1.op)) → listed.size = ops.size → (∀ i, listed.getD i true = false ↔ i ∈ L.map (·.1)) → (∀ k, k < ops.size → k ∉ L.map (·.1) → ∀ j, (dep.getD k []).contains j = true → j ∉ L.map (·.1)) → Rel (CC P fm) B X H w → X.fm = fm → EnvR X e a.tmps →
    (∀ Y a' w', X.le Y → Rel (CC P fm) B Y H' w' → EnvR Y e' a'.tmps → a'.defers = a.defers → (∀ i k, Y.iss i k → X.iss i k ∨ ∃ q ∈ L, γ + q.2.1.at_ ≤ k ∧ k < γ + q.2.1.at_ + room q.2.1.own q.2.1.op) → Q .normal a' w') →
    wpAnyIn (FF l) m P .any ops Q n listed a w
  | 0, L, listed, X, w, a, e, H, hn, hL, _, _, _, _, _, hsz, hli, _, h, hfm, he, hQ => by
    have : L = [] := List.eq_nil_of_length_eq_zero hn
    subst this
    obtain ⟨rfl, rfl⟩ := hL
    refine ⟨?_, hQ X a w (Cx.le.refl X) h he rfl fun _ _ hk => .inl hk⟩
    cases hr : Region.ready .any ops listed with
    | nil => rfl
    | cons i l =>
      have : i ∈ Region.ready .any ops listed := by rw [hr]; simp
      have := (hli i).1 (Zkq.1 this).2.1
      simp at this
  | n + 1, L, listed, X, w, a, e, H, hn, hL, hpair, htodo, hord, hrng, hfr, hsz, hli, hinv, h, hfm, he, hQ => by
    have notL : ∀ i, i < ops.size → i ∉ L.map (·.1) → listed.getD i false = true := fun i hi hm => by
      have h1 : ¬ listed.getD i true = false := fun hh => hm ((hli i).1 hh)
      have h2 : i < listed.size := by omega
      rw [Array.getD_eq_getD_getElem?, Array.getElem?_eq_getElem h2] at h1 ⊢
      simpa using h1
    have inL : ∀ i, i ∈ L.map (·.1) → listed.getD i false = true → False := fun i hm ht => by
      have h1 := (hli i).2 hm
      rw [Array.getD_eq_getD_getElem?] at h1 ht
      cases hq : listed[i]? with
      | none => rw [hq] at h1; simp at h1
      | some b => rw [hq] at h1 ht; simp at h1 ht; rw [h1] at ht; cases ht
    refine ⟨fun hr => ?_, fun i hi => ?_⟩
    · exfalso
      cases L with
      | nil => simp at hn
      | cons q L =>
        obtain ⟨o, h1, _, _, _, _, h6⟩ := htodo q (by simp)
        have hq : q.1 < ops.size := (Array.getElem?_eq_some_iff.1 h1).1
        have : q.1 ∈ Region.ready .any ops listed := Zkq.2 ⟨hq, (hli q.1).2 (by simp), o, h1, fun ed hed hb => by
          have hlt := h6 ed hed hb
          refine notL _ (by omega) fun hm => ?_
          obtain ⟨p, hp, hpe⟩ := List.mem_map.1 hm
          rcases List.mem_cons.1 hp with rfl | hp
          · omega
          · have := (List.pairwise_cons.1 hord).1 p hp; omega⟩
        rw [hr] at this
        simp at this
    · obtain ⟨hi1, hi2, o, ho, haft⟩ := Zkq.1 hi
      obtain ⟨q, hq, rfl⟩ := List.mem_map.1 ((hli i).1 hi2)
      obtain ⟨as, bs, rfl⟩ := List.append_of_mem hq
      obtain ⟨o', ho', hd, hk, hg, hdep, _⟩ := htodo q hq
      rw [ho] at ho'; cases ho'
      have hdone : ∀ j, (dep.getD q.1 []).contains j = true → j ∉ (as ++ q :: bs).map (·.1) := fun j hj hm => by
        obtain ⟨ed, hed, hb, hon⟩ := hdep j hj
        have hl := haft ed hed hb
        rcases hon with hon | hon
        · rw [hon] at hl; exact inL j hm hl
        · have hlt : ed.on < ops.size := by
            rw [Array.getD_eq_getD_getElem?] at hl
            cases hq' : listed[ed.on]? with
            | none => rw [hq'] at hl; simp at hl
            | some b => have := (Array.getElem?_eq_some_iff.1 hq').1; omega
          exact hinv ed.on hlt (fun hm' => inL ed.on hm' hl) j hon hm
      have hfront : ∀ p ∈ as, Zim p.2.1 q.2.1 = true ∧ Zkd p.2.2 q.2.2 = true := fun p hp => by
        have hind : Ind dep p q := (List.pairwise_append.1 hpair).2.2 p hp q (by simp)
        rcases hind with hc | hc
        · exact (hdone p.1 hc (List.mem_map.2 ⟨p, by simp [hp], rfl⟩)).elim
        · exact hc
      obtain ⟨e1, H1, hs, hrest⟩ := hL.front hfront
      have hsub : List.Sublist (as ++ bs) (as ++ q :: bs) := List.Sublist.append_left (List.sublist_cons_self q bs) as
      refine Zmm hP hE ho hd hk hg h hfm he (hfr q hq) hs l m fun Y a' w' y1 y2 y3 y4 y5 => ?_
      have hne : ∀ p ∈ as ++ bs, p.1 ≠ q.1 := fun p hp => by
        rcases List.mem_append.1 hp with hp | hp
        · have := (List.pairwise_append.1 hord).2.2 p hp q (by simp); omega
        · have := (List.pairwise_cons.1 (List.pairwise_append.1 hord).2.1).1 p hp; omega
      refine Zoq hP hE l m n (as ++ bs) _ Y w' a' e1 H1 (by simp at hn ⊢; omega) hrest (hpair.sublist hsub) (fun p hp => htodo p (hsub.subset hp)) (hord.sublist hsub) (hrng.sublist hsub) (fun p hp => ?_) (by simpa using hsz) (fun j => ?_) (fun k hk hkm j hj hm => ?_) y2 (by rw [y1.fm]; exact hfm) y3
        fun Z a2 w2 z1 z2 z3 z4 z5 => hQ Z a2 w2 (y1.trans z1) z2 z3 (z4.trans y4) fun j k hk => ?_
      · intro j k hj
        rcases y5 j k hj with hj | hj
        · exact hfr p (hsub.subset hp) j k hj
        · rcases List.mem_append.1 hp with hp | hp
          · have := (List.pairwise_append.1 hrng).2.2 p hp q (by simp); right; omega
          · have := (List.pairwise_cons.1 (List.pairwise_append.1 hrng).2.1).1 p hp; left; omega
      · rw [Array.getD_eq_getD_getElem?, Array.getElem?_setIfInBounds]
        by_cases hj : q.1 = j
        · subst hj
          have : ¬ q.1 ∈ (as ++ bs).map (·.1) := fun hm => by
            obtain ⟨p, hp, hpe⟩ := List.mem_map.1 hm
            exact hne p hp hpe
          simp only [if_true]
          constructor
          · intro hh
            split at hh <;> simp at hh
          · intro hh; exact absurd hh this
        · rw [if_neg hj]
          have := hli j
          rw [Array.getD_eq_getD_getElem?] at this
          rw [this]
          simp only [List.map_append, List.map_cons, List.mem_append, List.mem_cons]
          constructor
          · rintro (h1 | h1 | h1)
            · exact .inl h1
            · exact absurd h1.symm hj
            · exact .inr h1
          · rintro (h1 | h1)
            · exact .inl h1
            · exact .inr (.inr h1)
      · have hm' : j ∈ (as ++ q :: bs).map (·.1) := by
          obtain ⟨p, hp, rfl⟩ := List.mem_map.1 hm
          exact List.mem_map.2 ⟨p, hsub.subset hp, rfl⟩
        by_cases hkq : k = q.1
        · subst hkq; exact hdone j hj hm'
        · refine hinv k hk (fun hh => ?_) j hj hm'
          obtain ⟨p, hp, rfl⟩ := List.mem_map.1 hh
          rcases List.mem_append.1 hp with hp | hp
          · exact hkm (List.mem_map.2 ⟨p, by simp [hp], rfl⟩)
          · rcases List.mem_cons.1 hp with rfl | hp
            · exact hkq rfl
            · exact hkm (List.mem_map.2 ⟨p, by simp [hp], rfl⟩)
      · rcases z5 j k hk with hk | ⟨p, hp, hk⟩
        · rcases y5 j k hk with hk | hk
          · exact .inl hk
          · exact .inr ⟨q, hq, hk⟩
        · exact .inr ⟨p, hsub.subset hp, hk⟩
end Go.AM

set_option linter.unusedSimpArgs false
set_option linter.unusedVariables false
namespace Go.AM
open Go
variable {B : Base} {X : Cx} {H H' : Heap} {w w' : World} {P : Program} {fm : Nat → Nat} {AP : Zce} {E : AC → St → Option (Ex × St)} {ops : Array Oper} {base γ : Nat} {dep : List (List Nat)}

theorem Zqc {tot : Nat} : ∀ {rs : List RS} {os : List Oper} {k : Nat}, Zhm P fm ops tot k rs os = true → k ≤ tot ∧ rs.length = os.length ∧
    (∀ (i : Nat) (r : RS), rs[i]? = some r → k ≤ r.at_ ∧ r.at_ + room r.own r.op ≤ tot ∧ ∃ o, os[i]? = some o ∧ r.dst = o.dst ∧ Ziw P fm r.op o.op = true ∧ grdB ops r.grd o.guard = true) ∧
    rs.Pairwise (fun p q => p.at_ + room p.own p.op ≤ q.at_)
  | [], [], k, h => by simp [Zhm] at h; exact ⟨h, rfl, by simp, List.Pairwise.nil⟩
  | [], _ :: _, _, h => by simp [Zhm] at h
  | _ :: _, [], _, h => by simp [Zhm] at h
  | r :: rs, o :: os, k, h => by
    simp only [Zhm, Bool.and_eq_true, beq_iff_eq] at h
    obtain ⟨⟨⟨⟨hd, hk⟩, hg⟩, hat⟩, hc⟩ := h
    obtain ⟨h1, h2, h3, h4⟩ := Zqc hc
    refine ⟨by omega, by simp [h2], fun i r' hr => ?_, List.Pairwise.cons (fun q hq => ?_) h4⟩
    · cases i with
      | zero => simp at hr; subst hr; exact ⟨by omega, by omega, o, rfl, hd, hk, hg⟩
      | succ i =>
        obtain ⟨a1, a2, o', a3⟩ := h3 i r' (by simpa using hr)
        exact ⟨by omega, a2, o', by simpa using a3⟩
    · obtain ⟨i, hi⟩ := List.mem_iff_getElem?.1 hq
      have := (h3 i q hi).1
      omega
theorem Ztb {D : List (List Nat)} : ∀ {os : List Oper} {i : Nat}, depB D i os = true → ∀ (j : Nat) (o : Oper), os[j]? = some o →
    (∀ x, (D.getD (i + j) []).contains x = true → ∃ ed ∈ o.after, Region.binds .any ed = true ∧ (ed.on = x ∨ (D.getD ed.on []).contains x = true)) ∧ ∀ ed ∈ o.after, Region.binds .any ed = true → ed.on < i + j
  | [], _, _, j, o, h => by simp at h
  | o :: os, i, h, j, o', hj => by
    simp only [depB, Bool.and_eq_true] at h
    obtain ⟨⟨h1, h2⟩, h3⟩ := h
    cases j with
    | zero =>
      simp at hj
      subst hj
      refine ⟨fun x hx => ?_, fun ed hed hb => ?_⟩
      · rw [List.all_eq_true] at h1
        have := h1 x (by simpa using hx)
        obtain ⟨ii, hii, q2⟩ := Array.any_eq_true.1 this
        simp only [Bool.and_eq_true, Bool.or_eq_true, beq_iff_eq] at q2
        exact ⟨o.after[ii], Array.getElem_mem hii, q2.1, q2.2⟩
      · rw [Array.all_eq_true_iff_forall_mem] at h2
        have := h2 ed hed
        rw [hb] at this
        simpa using this
    | succ j =>
      obtain ⟨q1, q2⟩ := Ztb h3 j o' (by simpa using hj)
      refine ⟨fun x hx => q1 x (by rw [Nat.add_right_comm]; exact hx), fun ed hed hb => by have := q2 ed hed hb; omega⟩

theorem Zuo (hP : PR P fm AP) (hE : Zfa P fm E) {tot γ0 : Nat} {rs : List RS} {e e' : List V} {a : Act} {Q : Exit → Act → World → Prop} {id : Nat} (l : Option Nat) (m : Nat) (hc : Zhm P fm ops tot 0 rs ops.toList = true) (hdb : depB dep 0 ops.toList = true)
    (hr : runD (Zaq AP E) base γ0 0 dep rs [] e H = some (e', H')) (h : Rel (CC P fm) B X H w) (hfm : X.fm = fm) (he : EnvR X e a.tmps) (hi : ∀ i k, X.iss i k → k < γ0)
    (hQ : ∀ Y a' w', X.le Y → Rel (CC P fm) B Y H' w' → EnvR Y e' a'.tmps → a'.defers = a.defers → (∀ i k, Y.iss i k → X.iss i k ∨ (γ0 ≤ k ∧ k < γ0 + tot)) → Q .normal a' w') : (Code.region id ops true).wpIn (FF l) m P Q a w := by
  obtain ⟨_, hlen, hget, hrng⟩ := Zqc hc
  obtain ⟨L, l1, _, l3, l4, l5⟩ := Ydb (D := dep) rs 0 dep [] e e' H H' hr (by simp)
  have hL : L.length = ops.size := by
    have := congrArg List.length l5
    simp at this hlen
    omega
  have hpos : ∀ (i : Nat) (q : Nat × RS × Lg), L[i]? = some q → q.1 = i ∧ rs[i]? = some q.2.1 := fun i q hq => by
    have h1 : (L.map (·.1))[i]? = some q.1 := by simp [hq]
    have h2 : (L.map (·.2.1))[i]? = some q.2.1 := by simp [hq]
    rw [l5] at h2
    have hlt := (List.getElem?_eq_some_iff.1 h2).1
    rw [l4, List.getElem?_range' hlt] at h1
    simp at h1
    exact ⟨h1.symm, h2⟩
  have hw : Rel (CC P fm) B X H { w with drawn := w.drawn + 1 } := h.world rfl rfl rfl rfl
  refine wpIn_region_any hP.mixed ?_
  refine Zoq hP hE (dep := dep) l m ops.size L (Array.replicate ops.size false) X _ a e H hL l1 l3 (fun q hq => ?_) ?_ ?_ (fun q hq => ?_) (by simp) (fun i => ?_) (fun k hk hkm => ?_) hw hfm he fun Y a' w' y1 y2 y3 y4 y5 => hQ Y a' w' y1 y2 y3 y4 fun i k hk => ?_
  · obtain ⟨i, hi'⟩ := List.mem_iff_getElem?.1 hq
    obtain ⟨p1, p2⟩ := hpos i q hi'
    obtain ⟨_, _, o, q1, q2, q3, q4⟩ := hget i _ p2
    obtain ⟨d1, d2⟩ := Ztb hdb i o q1
    refine ⟨o, by rw [p1]; simpa using q1, q2, q3, q4, fun x hx => d1 x (by rw [Nat.zero_add, ← p1]; exact hx), fun ed hed hb => by have := d2 ed hed hb; omega⟩
  · have := List.pairwise_lt_range' (s := 0) (n := rs.length)
    rw [← l4] at this
    exact List.pairwise_map.1 this
  · rw [← l5] at hrng
    exact List.pairwise_map.1 hrng
  · intro i k hk
    left
    have := hi i k hk
    omega
  · rw [l4, Array.getD_eq_getD_getElem?]
    have hrl : rs.length = ops.size := by simpa using hlen
    by_cases hlt : i < ops.size
    · simp [hlt, hrl]
    · simp [hlt, hrl]
  · have hrl : rs.length = ops.size := by simpa using hlen
    exact absurd (by rw [l4]; simp [hrl, hk]) hkm
  · rcases y5 i k hk with hk | ⟨q, hq, hk⟩
    · exact .inl hk
    · obtain ⟨i', hi'⟩ := List.mem_iff_getElem?.1 hq
      obtain ⟨_, p2⟩ := hpos i' q hi'
      have := (hget i' _ p2).2.1
      right; omega

/-! ### Code -/
theorem Zhn.same {D : Nat → Option Obj} {s : St} {a : Act} {l : Option Nat} {ex : Ex} {e : Exit} (h : StR P fm B D X s w a l) (hx : exR ex e) : Zhn P fm B D X s s l ex e a w :=
  ⟨hx, rfl, Nat.le_refl _, X, Cx.le.refl X, fun _ _ hk => .inl hk, h⟩
/-- One stretch behind another. -/
theorem Zhn.trans {D : Nat → Option Obj} {s s1 s2 : St} {a : Act} {l : Option Nat} {ex : Ex} {e : Exit} {Y : Cx} (hrd : s1.rd = s.rd) (hγ : s.γ ≤ s1.γ) (hle : X.le Y) (hn : ∀ i k, Y.iss i k → X.iss i k ∨ s.γ ≤ k)
    (h : Zhn P fm B D Y s1 s2 l ex e a w) : Zhn P fm B D X s s2 l ex e a w := by
  obtain ⟨h1, h2, h3, Z, h4, h5, h6⟩ := h
  refine ⟨h1, h2.trans hrd, Nat.le_trans hγ h3, Z, hle.trans h4, fun i k hk => ?_, h6⟩
  rcases h5 i k hk with hk | hk
  · exact hn i k hk
  · right; omega

theorem StR.room {D : Nat → Option Obj} {s : St} {a : Act} {l : Option Nat} (h : StR P fm B D X s w a l) (tot : Nat) :
    X.le { X with lv := lvH (s.H ++ List.replicate tot none) } ∧ Rel (CC P fm) B { X with lv := lvH (s.H ++ List.replicate tot none) } (s.H ++ List.replicate tot none) w := h.rel.room tot
end Go.AM
