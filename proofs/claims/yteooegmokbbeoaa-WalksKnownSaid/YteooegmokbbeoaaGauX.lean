/- Stores, maps, append, copy. -/
import Derived.Test.YteooegmokbbeoaaGauW
set_option linter.unusedSimpArgs false
set_option linter.unusedVariables false
namespace Go.AM
open Go
variable {C : AC → Code → Prop} {B : Base} {X : Cx} {H H' : Heap} {w w' : World} {P : Program} {fm : Nat → Nat}

theorem Zwj {α : Type} {cs xs : List α} {off j : Nat} (h : off + xs.length ≤ cs.length) : (cs.take off ++ xs ++ cs.drop (off + xs.length))[j]? = if off ≤ j ∧ j < off + xs.length then xs[j - off]? else cs[j]? := by
  by_cases h1 : j < off
  · rw [List.getElem?_append_left (by simp; omega), List.getElem?_append_left (by simp; omega), List.getElem?_take]
    simp [h1, show ¬ (off ≤ j ∧ j < off + xs.length) by omega]
  · by_cases h2 : j < off + xs.length
    · rw [List.getElem?_append_left (by simp; omega), List.getElem?_append_right (by simp; omega)]
      simp only [List.length_take, show min off cs.length = off by omega]
      rw [if_pos ⟨by omega, h2⟩]
    · rw [List.getElem?_append_right (by simp; omega), if_neg (by omega), List.getElem?_drop]
      congr 1
      simp only [List.length_append, List.length_take]
      omega

/-- Cells of a live object are written. -/
theorem Rel.store {id g b base tot off : Nat} {cs xs : List V} {kd : Kd} {vs : List Value} (h : Rel C B X H w) (hl : H[id]? = some (some (g, .cells cs kd))) (hm : X.μ id = some (b, base, tot)) (hkd : kd ≠ .froz)
    (hx : Zcv X xs (fun j => vs[j]?)) (hxl : vs.length = xs.length) (hle : off + xs.length ≤ cs.length) :
    ∃ w', (storeCells ⟨b, base + off, none⟩ vs).run P w = .ok () w' ∧ X.le (X.put id g (some (b, base, tot)) (H.set id (some (g, .cells (Zbf cs off xs) kd)))) ∧
      Rel C B (X.put id g (some (b, base, tot)) (H.set id (some (g, .cells (Zbf cs off xs) kd)))) (H.set id (some (g, .cells (Zbf cs off xs) kd))) w' ∧ (∀ i k, (X.put id g (some (b, base, tot)) (H.set id (some (g, .cells (Zbf cs off xs) kd)))).iss i k → X.iss i k) ∧ w'.heap.size = w.heap.size := by
  obtain ⟨hL, hn, c, t, hb, hs, hlen, hf⟩ := h.lies hl hm
  have hF : X.F b = none := by rcases hf with ⟨e, _⟩ | ⟨_, e⟩; exact absurd e hkd; exact e
  have hone : ∀ v ∈ vs, v.oneCell' = true := fun v hv => by
    obtain ⟨i, hi⟩ := List.mem_iff_getElem?.1 hv
    have hlt : i < xs.length := by have := (List.getElem?_eq_some_iff.1 hi).1; omega
    obtain ⟨h1, x, h2, h3⟩ := hx i xs[i] (List.getElem?_eq_getElem hlt)
    have h2' : vs[i]? = some x := h2
    rw [hi] at h2'
    cases h2'
    exact h3.oneCell h1
  have hrun := run_storeCells_at (P := P) b (base + off) t vs 0 c w hb (by omega) hone
  have hid : id < H.length := (List.getElem?_eq_some_iff.1 hl).1
  have hbig : base + off + vs.length ≤ c.toList.length := by simp; omega
  have hsz : (c.toList.take (base + off + 0) ++ vs ++ c.toList.drop (base + off + 0 + vs.length)).toArray.size = tot := by
    simp only [List.size_toArray, List.length_append, List.length_take, List.length_drop, Array.length_toList]
    omega
  refine ⟨_, hrun, ?_⟩
  have key := h.putCells (id := id) (g := g) (b := b) (base := base) (cs := Zbf cs off xs) (kd := kd) (c := (c.toList.take (base + off + 0) ++ vs ++ c.toList.drop (base + off + 0 + vs.length)).toArray) (t := t)
    (w' := w.setRow b (c.toList.take (base + off + 0) ++ vs ++ c.toList.drop (base + off + 0 + vs.length)).toArray) hid
    (.inr ⟨by rw [hm, hsz], _, hl, by simp [lkO, Zej hle]⟩) (setRow_heap w b c _ t _ hb) (fun k hk _ => setRow_other w b k _ hk)
    ⟨hF, h.own id g _ b base tot hl hm hF, fun id' g' o' n' k' hne hl' hm' => hne (h.inj id' id g' g o' _ b n' k' base tot hl' hl hm' hm hF)⟩
    (by simp) rfl rfl rfl ⟨hn, hkd⟩ (by rw [hsz, Zej hle]; omega) (fun j v hv => by
      rw [Zmo hle] at hv
      show _ ∧ ∃ x, ((c.toList.take (base + off + 0) ++ vs ++ c.toList.drop (base + off + 0 + vs.length)).toArray)[base + j]? = some x ∧ _
      simp only [Nat.add_zero, List.getElem?_toArray]
      rw [Zwj hbig]
      by_cases hj : off ≤ j ∧ j < off + xs.length
      · rw [if_pos hj] at hv
        rw [if_pos (by omega)]
        obtain ⟨q1, x, q2, q3⟩ := hx _ _ hv
        refine ⟨q1, x, ?_, q3⟩
        rw [← q2]
        show vs[base + j - (base + off)]? = vs[j - off]?
        congr 1
        omega
      · rw [if_neg hj] at hv
        rw [if_neg (by omega)]
        obtain ⟨q1, x, q2, q3⟩ := hL j v hv
        refine ⟨q1, x, ?_, q3⟩
        rw [Array.getElem?_toList]
        simpa [World.cell?, hb] using q2)
  rw [hsz] at key
  refine ⟨key.1, key.2, fun i k hk => ?_, by simp⟩
  rcases hk with hk | ⟨rfl, rfl⟩
  · exact hk
  · exact (h.obj _ _ _ hl).1

theorem sim_st {ci : Bool → Nat → List V → Option (V × Option (List V × Kd))} {own : List (Nat × Nat)} {id g n sz : Nat} {y z : Opd} {av xv v : V} {a x : Value} {t : TypeId} {r ws : List Nat}
    (h : Rel C B X H w) (hf : Zgh X g n) (hn : own.length ≤ n) (hsz : szB P t sz = true) (ha : RV X av a) (hx : RV X xv x)
    (hp : runP (Zaz ci own id g (.st sz y z) [av, xv]) H = some (v, H', r, ws)) : v = .junk ∧ SimU C B X H' g n ((Instr.storeAt t a x).run P w) := by
  unfold Zaz at hp
  cases ha <;> (try exact (Zaw hp).elim)
  rename_i i gi off a hg hl
  obtain ⟨⟨hw, hlen⟩, hp⟩ := Zbw hp
  obtain ⟨hc, hs⟩ := Ziq hx hw
  obtain ⟨Y, H1, cs', r', ws', a1, a2, a3, a4, a5, a6, hp⟩ := Zko own X H id g _ _ _ h (fun i k hk => by have := hf i k hk; omega) hc hp
  obtain ⟨o, r1, ho, hp, _⟩ := Zdv hp
  cases o <;> (try exact (Zaw hp).elim)
  rename_i cs kd
  have hptr : RV Y (.ptr i gi off) (.pointer (some a)) := RV.weak a1 (.ptr i gi off a hg hl)
  cases hptr with
  | ptr _ _ _ _ hg' hl' =>
  obtain ⟨b, base, tot, hm, rfl⟩ := hl' cs.length (by rw [a2.lv]; exact Zbl.2 ⟨_, ho, rfl⟩)
  have go : kd ≠ .froz → runP (if off + sz ≤ cs.length then .wr i (some (gi, .cells (Zbf cs off cs') kd)) (.ret .junk) else .no) H1 = some (v, H', r1, ws') → v = .junk ∧ SimU C B X H' g n ((Instr.storeAt t (.pointer (some ⟨b, base + off, none⟩)) x).run P w) := by
    intro hkd hp
    obtain ⟨hle, hp⟩ := Zbw hp
    obtain ⟨ws1, hid, hp, _⟩ := Zcj hp
    obtain ⟨rfl, rfl⟩ := Zau hp
    refine ⟨rfl, ?_⟩
    obtain ⟨w', s1, s2, s3, s4, _⟩ := a2.store (P := P) (vs := x.cells.toList) ho hm hkd (fun j v hv => by simp only [Array.getElem?_toList]; exact a3 j v hv) (by simp; omega) (by omega : off + cs'.length ≤ cs.length)
    refine ⟨_, w', ?_, a1.trans s2, s3, fun i k hk => ?_⟩
    · simp only [Instr.storeAt, Instr.sureAddr, Sem.run_bind, Sem.run_pure, Result.andThen_ok, storeVar, Zbh hsz]
      rw [if_neg (by simp; omega)]
      exact s1
    · rcases a5 i k (s4 i k hk) with hk | hk
      · exact .inl hk
      · right; omega
  cases kd with
  | fixed => exact go (by simp) hp
  | loose => exact go (by simp) hp
  | nilo => exact (Zaw hp).elim
  | froz => exact (Zaw hp).elim

/-! ### Maps -/
def rowF (P : Program) (t : TypeId) : Bool := match P.underlying t with | some d => rowD d | none => false

theorem Zhr {kt : TypeId} {ag : Bool} {ks : List SK} {kv : V} {k : Value} (ht : shpB P kt ag ks = true) (hk : RV X kv k) : ∀ (es : List (V × V)) (ents : List MapEntry) (i : Nat) (res : Option Nat) (w : World),
    ents.length = es.length → (∀ (j : Nat) (e : V × V), es[j]? = some e → ∃ ent, ents[j]? = some ent ∧ RV X e.1 ent.key) → Zgi ag ks kv es i = some res →
    (Instr.findAsking kt k ents i).run P w = .ok (res.bind fun j => (ents[j - i]?).map fun ent => (j, ent.val)) w ∧ (∀ j, res = some j → i ≤ j ∧ j - i < es.length)
  | [], ents, i, res, w, hl, _, h => by
    simp at hl
    subst hl
    simp only [Zgi, Option.some.injEq] at h
    subst h
    exact ⟨by simp [Instr.findAsking], fun j hj => by cases hj⟩
  | (k', v') :: es, ents, i, res, w, hl, hE, h => by
    cases ents with
    | nil => simp at hl
    | cons ent ents =>
      obtain ⟨ent', he1, he2⟩ := hE 0 (k', v') rfl
      simp at he1
      subst he1
      simp only [Zgi] at h
      cases hq : eqK ag ks kv k' with
      | none => rw [hq] at h; simp at h
      | some b =>
        have hrun := Zyl (P := P) ht hk he2 hq Op.maxDepth (by decide) w
        rw [hq] at h
        cases b with
        | true =>
          simp only [Option.some.injEq] at h
          subst h
          refine ⟨?_, fun j hj => by cases hj; simp⟩
          simp [Instr.findAsking, Op.equal, hrun]
        | false =>
          simp only at h
          obtain ⟨r1, r2⟩ := Zhr ht hk es ents (i + 1) res w (by simpa using hl) (fun j e he => hE (j + 1) e (by simpa using he)) h
          refine ⟨?_, fun j hj => by have := r2 j hj; simp; omega⟩
          simp only [Instr.findAsking, Sem.run_bind, Op.equal, hrun, Result.andThen_ok, Bool.false_eq_true, if_false, r1]
          congr 1
          cases res with
          | none => rfl
          | some j =>
            have := r2 j rfl
            obtain ⟨q, hq⟩ : ∃ q, j - i = q + 1 := ⟨j - i - 1, by omega⟩
            simp only [Option.bind_some, hq, List.getElem?_cons_succ]
            congr 2
            omega
theorem Zhq {kt : TypeId} {d : TypeDesc} (hu : P.underlying kt = some d) {k : Value} : ∀ (ents : List MapEntry) (i : Nat) (r : Option (Nat × Value)) (w : World), Instr.findNow d k ents i = some r → (Instr.findAsking kt k ents i).run P w = .ok r w
  | [], i, r, w, h => by simp only [Instr.findNow, Option.some.injEq] at h; subst h; rfl
  | e :: ents, i, r, w, h => by
    simp only [Instr.findNow] at h
    have key : ∀ b, Instr.sameNow d k e.key = some b → (Op.equal kt k e.key).run P w = .ok b w := by
      intro b hb
      refine Zea fun D => ?_
      clear h
      generalize e.key = kk at hb ⊢
      unfold Instr.sameNow at hb
      split at hb
      · rename_i q k1 a k2 c
        split at hb
        · rename_i e; subst e
          simp only [Option.some.injEq] at hb
          rw [← hb, run_equalIn_int w D kt _ q a c hu]
        · cases hb
      · simp only [Option.some.injEq] at hb
        rw [run_equalIn_string w D kt _ _ hu, ← hb, beq_toListBytes]
      · simp only [Option.some.injEq] at hb
        rw [run_equalIn_bool' w D kt _ _ hu, ← hb]
      · cases hb
    split at h
    · rename_i hs
      simp only [Option.some.injEq] at h
      subst h
      simp [Instr.findAsking, key true hs]
    · rename_i hs
      simp only [Instr.findAsking, Sem.run_bind, key false hs, Result.andThen_ok, Bool.false_eq_true, if_false]
      exact Zhq hu ents (i + 1) r w h
    · cases h
theorem Zhv {kt : TypeId} {ag : Bool} {ks : List SK} {kv : V} {k : Value} (ht : shpB P kt ag ks = true) (hk : RV X kv k) {es : List (V × V)} {ents : List MapEntry} {res : Option Nat}
    (hl : ents.length = es.length) (hE : ∀ (j : Nat) (e : V × V), es[j]? = some e → ∃ ent, ents[j]? = some ent ∧ RV X e.1 ent.key) (h : Zgi ag ks kv es 0 = some res) :
    (Instr.findKey kt k ents).run P w = .ok (res.bind fun j => (ents[j]?).map fun ent => (j, ent.val)) w ∧ (∀ j, res = some j → j < es.length) := by
  obtain ⟨r1, r2⟩ := Zhr ht hk es ents 0 res w hl hE h
  simp only [Nat.sub_zero] at r1 r2
  refine ⟨?_, fun j hj => (r2 j hj).2⟩
  simp only [shpB, Bool.and_eq_true] at ht
  have : ∃ d, P.underlying kt = some d := by
    have := ht.1
    unfold agB at this
    split at this
    · rename_i d hd; exact ⟨d, hd⟩
    · cases this
  obtain ⟨d, hd⟩ := this
  simp only [Instr.findKey, Sem.run_bind, run_underlying hd, Result.andThen_ok]
  cases hn : Instr.findNow d k ents 0 with
  | none => exact r1
  | some r =>
    have := Zhq hd ents 0 r w hn
    rw [r1] at this
    cases this
    rfl

def CkAt (P : Program) (t : TypeId) (ks : List SK) (d : Nat) : Prop :=
  szB P t ks.length = true ∧ ∀ (emp : Bool) (D : Nat) (w : World) (xs : Array Value) (off : Nat), d ≤ D → off + ks.length ≤ xs.size → (do let x ← part t xs off; Instr.checkKey emp D t x).run P w = .ok () w
theorem Zht {t : TypeId} {k : SK} {d : Nat} {td : TypeDesc} (hu : P.underlying t = some td) (hr : (match td with | .int _ | .bool | .string => true | _ => false) = true) (hz : szB P t 1 = true) : CkAt P t [k] (d + 1) := by
  refine ⟨hz, fun emp D w xs off hD hle => ?_⟩
  obtain ⟨D, rfl⟩ : ∃ n, D = n + 1 := ⟨D - 1, by omega⟩
  have hlt : off < xs.size := by simp at hle; omega
  have hag : agB P t false = true := Zjn hu (by cases td <;> simp at hr <;> rfl)
  simp only [Sem.run_bind, part, Zcl hag, Result.andThen_ok, Bool.false_eq_true, if_false, Array.getElem?_eq_getElem hlt, Sem.run_pure]
  cases td <;> simp at hr <;> simp [Instr.checkKey, run_underlying hu]
theorem Zsp {d D : Nat} (hD : d ≤ D) {f : TypeId → Option (List SK)} (hf : ∀ t ks, f t = some ks → CkAt P t ks d) (emp : Bool) (xs : Array Value) :
    ∀ (fs : List Field) (off : Nat) (ks : List SK) (w : World), shp.shpS f fs off = some ks → off + ks.length ≤ xs.size →
      (forIn fs PUnit.unit fun (f : Field) (_ : PUnit) => if f.name ≠ "_" then (do let x ← part f.type xs f.offset; Instr.checkKey emp D f.type x; pure (ForInStep.yield PUnit.unit)) else pure (ForInStep.yield PUnit.unit) : Sem PUnit).run P w = .ok PUnit.unit w
  | [], off, ks, w, _, _ => by simp
  | fd :: fs, off, ks, w, hs, hle => by
    simp only [shp.shpS] at hs
    split at hs
    · rename_i hc
      split at hs
      · rename_i k1 hk1
        split at hs
        · rename_i k2 hk2
          simp only [Option.some.injEq] at hs
          subst hs
          simp only [List.length_append] at hle
          have h1 := (hf _ _ hk1).2 emp D w xs off hD (by omega)
          have ih := Zsp hD hf emp xs fs _ k2 w hk2 (by omega)
          rw [List.forIn_cons]
          simp only [hc.2, ne_eq, not_false_eq_true, if_true, hc.1]
          have assoc : (do let x ← part fd.type xs off; Instr.checkKey emp D fd.type x; pure (ForInStep.yield PUnit.unit) : Sem (ForInStep PUnit)) = ((do let x ← part fd.type xs off; Instr.checkKey emp D fd.type x) >>= fun _ => pure (ForInStep.yield PUnit.unit)) := by simp only [bind_assoc]
          rw [assoc, Sem.run_bind, Sem.run_bind, h1]
          simpa using ih
        · cases hs
      · cases hs
    · cases hs
theorem Zyc {d D : Nat} (hD : d ≤ D) {e : TypeId} {ks : List SK} (hf : CkAt P e ks d) (emp : Bool) (xs : Array Value) :
    ∀ (n i : Nat) (w : World), i * ks.length + n * ks.length ≤ xs.size →
      (forIn (List.range' i n) PUnit.unit fun (i : Nat) (_ : PUnit) => (do let s ← sizeOf e; let x ← part e xs (i * s); Instr.checkKey emp D e x; pure (ForInStep.yield PUnit.unit)) : Sem PUnit).run P w = .ok PUnit.unit w
  | 0, i, w, _ => by simp
  | n + 1, i, w, hle => by
    have hm : (n + 1) * ks.length = ks.length + n * ks.length := by rw [Nat.add_mul]; omega
    have hi : (i + 1) * ks.length = i * ks.length + ks.length := by rw [Nat.add_mul]; omega
    have h1 := hf.2 emp D w xs (i * ks.length) hD (by omega)
    have ih := Zyc hD hf emp xs n (i + 1) w (by rw [hi]; omega)
    rw [List.range'_succ, List.forIn_cons]
    have assoc : (do let x ← part e xs (i * ks.length); Instr.checkKey emp D e x; pure (ForInStep.yield PUnit.unit) : Sem (ForInStep PUnit)) = ((do let x ← part e xs (i * ks.length); Instr.checkKey emp D e x) >>= fun _ => pure (ForInStep.yield PUnit.unit)) := by simp only [bind_assoc]
    rw [Sem.run_bind, Sem.run_bind, Zbh hf.1, Result.andThen_ok, assoc, Sem.run_bind, h1]
    simpa using ih
theorem Zsm {t : TypeId} {ks : List SK} {d : Nat} {td : TypeDesc} (hu : P.underlying t = some td) (hr : rowD td = true) (hz : szB P t ks.length = true)
    (hs : ∀ (emp : Bool) (D : Nat) (w : World) (xs : Array Value), d ≤ D → xs.size = ks.length → (Instr.checkKey emp (D + 1) t (.agg xs)).run P w = .ok () w) : CkAt P t ks (d + 1) := by
  refine ⟨hz, fun emp D w xs off hD hle => ?_⟩
  obtain ⟨D, rfl⟩ : ∃ n, D = n + 1 := ⟨D - 1, by omega⟩
  have p : (part t xs off).run P w = .ok (.agg (xs.extract off (off + ks.length))) w := by
    simp only [part, Sem.run_bind, Zcl (Zyv hu hr), Result.andThen_ok, if_true, Zbh hz, Sem.run_pure]
  simp only [Sem.run_bind, p, Result.andThen_ok]
  exact hs emp D w _ (by omega) (by simp; omega)
theorem ckAt : ∀ (d : Nat) (t : TypeId) (ks : List SK), shp P d t = some ks → CkAt P t ks d
  | 0, t, ks, h => by simp [shp] at h
  | d + 1, t, ks, h => by
    simp only [shp] at h
    split at h
    · rename_i k hk
      split at h
      · rename_i hz; cases h; exact Zht hk rfl hz
      · cases h
    · rename_i hk
      split at h
      · rename_i hz; cases h; exact Zht hk rfl hz
      · cases h
    · rename_i hk
      split at h
      · rename_i hz; cases h; exact Zht hk rfl hz
      · cases h
    · rename_i fs hk
      split at h
      · cases h
      · split at h
        · rename_i ks' hks
          split at h
          · rename_i hz
            cases h
            refine Zsm hk rfl hz fun emp D w xs hD hxs => ?_
            have := Zsp hD (fun t ks ht => ckAt d t ks ht) emp xs fs.toList 0 ks w hks (by omega)
            simp only [Instr.checkKey, Sem.run_bind, run_underlying hk, Result.andThen_ok]
            rw [← Array.forIn_toList]
            simp at this ⊢
            rw [this]
            rfl
          · cases h
        · cases h
    · rename_i n e hk
      split at h
      · rename_i ks' hks
        split at h
        · rename_i hz
          cases h
          have hE := ckAt d e ks' hks
          have hlen : ((List.replicate n ks').flatten).length = n * ks'.length := by simp
          refine Zsm hk rfl (by rw [hlen]; exact hz) fun emp D w xs hD hxs => ?_
          rw [hlen] at hxs
          have := Zyc hD hE emp xs n 0 w (by omega)
          simp only [Instr.checkKey, Sem.run_bind, run_underlying hk, Result.andThen_ok]
          simp only [Std.Legacy.Range.forIn_eq_forIn_range', Std.Legacy.Range.size, Nat.sub_zero, Nat.add_one_sub_one, Nat.div_one]
          simp at this ⊢
          rw [this]
          rfl
        · cases h
      · cases h
    · cases h

theorem Zfs {kt : TypeId} {ag : Bool} {ks : List SK} {kv : V} {k : Value} (ht : shpB P kt ag ks = true) (hk : RV X kv k) (hok : Zly ag ks kv = true) (emp : Bool) : (Instr.checkKey emp 10000 kt k).run P w = .ok () w := by
  simp only [shpB, Bool.and_eq_true] at ht
  obtain ⟨hag, ht⟩ := ht
  split at ht
  · rename_i l hl
    obtain rfl := Zvp ht
    obtain ⟨hz, hp⟩ := ckAt 9 kt _ hl
    cases ag with
    | true =>
      cases hk <;> simp [Zly] at hok
      rename_i cs xs hs _ _
      have := hp emp 10000 w xs 0 (by omega) (by omega)
      simp only [part, Sem.run_bind, Zcl hag, Result.andThen_ok, if_true, Zbh hz, Sem.run_pure] at this
      rwa [Nat.zero_add, ← hok, ← hs, Array.extract_size] at this
    | false =>
      have h1 : ks.length = 1 := by
        unfold agB at hag
        split at hag
        · rename_i d hd
          simp only [beq_iff_eq] at hag
          simp only [shp] at hl
          rw [hd] at hl
          cases d <;> simp [rowD] at hag <;> simp at hl
          all_goals (obtain ⟨_, rfl⟩ := hl; rfl)
        · cases hag
      have := hp emp 10000 w #[k] 0 (by omega) (by simp [h1])
      simp only [part, Sem.run_bind, Zcl hag, Result.andThen_ok, Bool.false_eq_true, if_false] at this
      simpa using this
  · cases ht

theorem Yas {t : TypeId} {z : V} (h : zvB P fm t z = true) (hfm : X.fm = fm) : ∃ x, (∀ w, (zeroValue t).run P w = .ok x w) ∧ RV X z x := by
  unfold zvB at h
  split at h
  · rename_i i hi
    split at h
    · rename_i x hx
      exact ⟨x, fun w => by simp [zeroValue, typeInfo, hi, hx], Zsl (e := []) (a := ⟨#[], []⟩) ⟨rfl, fun t => by cases t <;> exact .junk _⟩ hfm h⟩
    · cases h
  · cases h

theorem RO.map_ents {i b n m : Nat} {es : List (V × V)} (h : RO C X w i (.map es)) (hm : X.μ i = some (b, n, m)) : X.F b = none ∧ ∃ ents clock, w.heap[b]? = some (.map ents clock) ∧ ents.size = es.length ∧
    (∀ (j : Nat) (e : V × V), es[j]? = some e → Zcc e.2 = true ∧ ∃ ent, ents.toList[j]? = some ent ∧ RV X e.1 ent.key ∧ RV X e.2 ent.val) := by
  obtain ⟨b', n', m', ents, clock, hm', hF, hb, hs, he⟩ := h
  rw [hm] at hm'; cases hm'
  exact ⟨hF, ents, clock, hb, hs, fun j e hj => by simp only [Array.getElem?_toList]; exact he j e hj⟩

theorem Yei {ci : Bool → Nat → List V → Option (V × Option (List V × Kd))} {own : List (Nat × Nat)} {id g n : Nat} {ag ok : Bool} {ks : List SK} {z : V} {y y' : Opd} {xv kv v : V} {x k : Value} {t kt e : TypeId} {r ws : List Nat}
    (h : Rel C B X H w) (hfm : X.fm = fm) (hu : P.underlying t = some (.map kt e)) (hk : shpB P kt ag ks = true) (hz : zvB P fm e z = true) (hx : RV X xv x) (hkv : RV X kv k)
    (hp : runP (Zaz ci own id g (.lkp ag ks z ok y y') [xv, kv]) H = some (v, H', r, ws)) : SimR C B X v H' g n ((Instr.lookup t x k ok).run P w) := by
  obtain ⟨zx, hzr, hzx⟩ := Yas (P := P) hz hfm
  have tup2 : ∀ {u : V} {q : Value} (b : Bool), RV X u q → RV X (if ok then .tup [u, .bool b] else u) (if ok then .tuple #[q, .bool b] else q) := by
    intro u q b hq
    cases ok with
    | false => exact hq
    | true =>
      simp only [if_true]
      refine .tup _ _ rfl fun i u' x' hu hx => ?_
      match i with
      | 0 => simp at hu hx; subst hu hx; exact hq
      | 1 => simp at hu hx; subst hu hx; exact .bool b
      | i + 2 => simp at hu
  have look : ∀ (b : Nat) (es : List (V × V)) (ents : Array MapEntry) (clock : Nat) (r1 : List Nat), Zly ag ks kv = true → w.heap[b]? = some (.map ents clock) → ents.size = es.length →
      (∀ (j : Nat) (e : V × V), es[j]? = some e → Zcc e.2 = true ∧ ∃ ent, ents.toList[j]? = some ent ∧ RV X e.1 ent.key ∧ RV X e.2 ent.val) →
      runP (match Zgi ag ks kv es 0 with
        | some (some j) => match es[j]? with
          | some e => .ret (if ok then .tup [e.2, .bool true] else e.2)
          | none => .no
        | some none => .ret (if ok then .tup [z, .bool false] else z)
        | none => .no) H = some (v, H', r1, ws) → SimR C B X v H' g n ((Instr.lookup t (.map (some b)) k ok).run P w) := by
    intro b es ents clock r1 hok hb hs he hp
    have fin : ∀ (res : Option Nat), Zgi ag ks kv es 0 = some res → (∀ (w : World), (Instr.findKey kt k ents.toList).run P w = .ok (res.bind fun j => (ents.toList[j]?).map fun ent => (j, ent.val)) w) ∧ (∀ j, res = some j → j < es.length) := fun res hr =>
      have q := fun w => Zhv (P := P) (w := w) (es := es) (ents := ents.toList) (res := res) hk hkv (by rw [Array.length_toList]; exact hs) (fun j e hj => by obtain ⟨_, ent, h1, h2, _⟩ := he j e hj; exact ⟨ent, h1, h2⟩) hr
      ⟨fun w => (q w).1, (q w).2⟩
    have hget : (getObj b).run P w = .ok (.map ents clock) w := by simp [getObj, Sem.run, hb]
    split at hp
    · rename_i j hj
      obtain ⟨f1, f2⟩ := fin _ hj
      split at hp
      · rename_i e0 he0
        obtain ⟨rfl, rfl⟩ := Zau hp
        obtain ⟨_, ent, q1, q2, q3⟩ := he j e0 he0
        have hfk := f1 w
        simp only [Option.bind_some, q1, Option.map_some] at hfk
        have : (Instr.lookup t (.map (some b)) k ok).run P w = .ok (if ok then .tuple #[ent.val, .bool true] else ent.val) w := by
          simp [Instr.lookup, Sem.run_bind, run_underlying hu, hget, Zfs (P := P) (w := w) hk hkv hok, hfk]
        rw [this]
        exact SimR.same h (tup2 true q3)
      · exact (Zaw hp).elim
    · rename_i hj
      obtain ⟨f1, f2⟩ := fin _ hj
      obtain ⟨rfl, rfl⟩ := Zau hp
      have hfk := f1 w
      simp only [Option.bind_none] at hfk
      have : (Instr.lookup t (.map (some b)) k ok).run P w = .ok (if ok then .tuple #[zx, .bool false] else zx) w := by
        simp [Instr.lookup, Sem.run_bind, run_underlying hu, hget, Zfs (P := P) (w := w) hk hkv hok, hfk, hzr]
      rw [this]
      exact SimR.same h (tup2 false hzx)
    · exact (Zaw hp).elim
  unfold Zaz at hp
  cases hx <;> (try exact (Zaw hp).elim)
  case nilm =>
    obtain ⟨hok, hp⟩ := Zbw hp
    obtain ⟨rfl, rfl⟩ := Zau hp
    have : (Instr.lookup t (.map none) k ok).run P w = .ok (if ok then .tuple #[zx, .bool false] else zx) w := by
      simp [Instr.lookup, Sem.run_bind, run_underlying hu, Zfs (P := P) (w := w) hk hkv hok true, hzr]
      have e1 : (Instr.findKey kt k []).run P w = .ok none w :=
        (Zhv (P := P) (X := X) (kv := kv) (ag := ag) (ks := ks) (w := w) (es := []) (ents := []) (res := none) hk hkv rfl (fun j e he => by cases he) rfl).1
      rw [e1]

      cases ok <;> simp [hzr]
    rw [this]
    exact SimR.same h (tup2 false hzx)
  case mp i gi b hg hl =>
    obtain ⟨hok, hp⟩ := Zbw hp
    obtain ⟨o, r1, ho, hp, _⟩ := Zdv hp
    cases o <;> (try exact (Zaw hp).elim)
    rename_i es
    obtain ⟨n1, m1, hm⟩ := hl (by rw [h.lv]; exact Zbl.2 ⟨_, ho, rfl⟩)
    obtain ⟨hF, ents, clock, hb, hs, he⟩ := (h.obj _ _ _ ho).2.map_ents hm
    exact look b es ents clock _ hok hb hs he hp
  case mpf ks' vs' b ents clock hF hs hv hpp hw h1 h2 =>
    obtain ⟨hok, hp⟩ := Zbw hp
    refine look b (ks'.zip vs') ents clock _ hok (h.frz _ _ hF) (by simp [hs, hv]) (fun j e hj => ?_) hp
    rw [List.getElem?_zip_eq_some] at hj
    have hlt : j < ents.size := by have := (List.getElem?_eq_some_iff.1 hj.1).1; omega
    exact ⟨hw j _ hj.2, ents[j], by simp [hlt], h1 j _ _ hj.1 (Array.getElem?_eq_getElem hlt), h2 j _ _ hj.2 (Array.getElem?_eq_getElem hlt)⟩
end Go.AM
