/- Map stores, append, copy. -/
import Derived.Test.YteooegmokbbeoaaGauX
import Derived.Laws.AppendOwn
import Derived.MapKept
set_option linter.unusedSimpArgs false
set_option linter.unusedVariables false
namespace Go.AM
open Go
variable {C : AC → Code → Prop} {B : Base} {X : Cx} {H H' : Heap} {w w' : World} {P : Program} {fm : Nat → Nat}

/-! ### Map stores -/
theorem Ztj {k : SK} {a b : V} {x y : Value} (ha : RV X a x) (hb : RV X b y) (h : eqS k a b = some true) (n : Nat) : Instr.sameBits n y x = true := by
  cases k <;> cases ha <;> simp [eqS] at h <;> cases hb <;> simp [eqS] at h
  · obtain ⟨rfl, rfl⟩ := h; cases n <;> simp [Instr.sameBits]
  · subst h; cases n <;> simp [Instr.sameBits]
  · rename_i s s'
    have h' : s = s' := (MapKept.bytes_beq _ _).1 h
    subst h'; cases n <;> simp [Instr.sameBits, MapKept.bytes_beq]
theorem Ztn : ∀ {ks : List SK} {us vs : List V}, eqL ks us vs = some true → ∀ (xs ys : List Value), RL X us xs → RL X vs ys → ys.length = xs.length ∧ (ys.zip xs).all (fun (x, y) => Instr.sameBits 9999 x y) = true
  | [], [], [], _, xs, ys, h1, h2 => by
    have e1 := List.eq_nil_of_length_eq_zero (h1.1.trans rfl)
    have e2 := List.eq_nil_of_length_eq_zero (h2.1.trans rfl)
    subst e1 e2; exact ⟨rfl, rfl⟩
  | [], [], _ :: _, h, _, _, _, _ => by simp [eqL] at h
  | [], _ :: _, _, h, _, _, _, _ => by simp [eqL] at h
  | _ :: _, [], _, h, _, _, _, _ => by simp [eqL] at h
  | _ :: _, _ :: _, [], h, _, _, _, _ => by simp [eqL] at h
  | k :: ks, u :: us, v :: vs, h, xs, ys, h1, h2 => by
    simp only [eqL] at h
    cases hq : eqS k u v with
    | none => rw [hq] at h; simp at h
    | some b =>
      rw [hq] at h
      cases b with
      | false => simp at h
      | true =>
        cases xs with
        | nil => have := h1.1; simp at this
        | cons x xs =>
          cases ys with
          | nil => have := h2.1; simp at this
          | cons y ys =>
            obtain ⟨q1, q2⟩ := Ztn (ks := ks) (us := us) (vs := vs) h xs ys ⟨by have := h1.1; simpa using this, fun i v x hv hx => h1.2 (i + 1) v x (by simpa using hv) (by simpa using hx)⟩
              ⟨by have := h2.1; simpa using this, fun i v x hv hx => h2.2 (i + 1) v x (by simpa using hv) (by simpa using hx)⟩
            refine ⟨by simp [q1], ?_⟩
            simp only [List.zip_cons_cons, List.all_cons, Bool.and_eq_true]
            exact ⟨Ztj (h1.2 0 u x rfl rfl) (h2.2 0 v y rfl rfl) hq _, q2⟩
theorem Ybu {ag : Bool} {ks : List SK} {a b : V} {x y : Value} (ha : RV X a x) (hb : RV X b y) (h : eqK ag ks a b = some true) : Instr.sameBits 10000 y x = true := by
  cases ag with
  | false =>
    have : ∃ k, eqS k a b = some true := by
      rcases ks with _ | ⟨k, _ | ⟨k', l⟩⟩
      · simp [eqK] at h
      · exact ⟨k, by simpa [eqK] using h⟩
      · simp [eqK] at h
    obtain ⟨k, hk⟩ := this
    exact Ztj ha hb hk _
  | true =>
    cases ha <;> simp [eqK] at h
    cases hb <;> simp [eqK] at h
    rename_i us xs s1 _ h1 vs ys s2 _ h2
    obtain ⟨_, h⟩ := h
    obtain ⟨q1, q2⟩ := Ztn (X := X) h xs.toList ys.toList ⟨by simpa using s1, fun i v x hv hx => h1 i v x hv (by simpa using hx)⟩ ⟨by simpa using s2, fun i v x hv hx => h2 i v x hv (by simpa using hx)⟩
    show Instr.sameBits (9999 + 1) (.agg ys) (.agg xs) = true
    simp only [Instr.sameBits, Bool.and_eq_true, beq_iff_eq]
    exact ⟨by simpa using q1, q2⟩
theorem Zsh {ag : Bool} {ks : List SK} {k : V} : ∀ {es : List (V × V)} {i j : Nat}, Zgi ag ks k es i = some (some j) → i ≤ j ∧ ∃ e, es[j - i]? = some e ∧ eqK ag ks k e.1 = some true
  | [], i, j, h => by simp [Zgi] at h
  | (k', v') :: es, i, j, h => by
    simp only [Zgi] at h
    cases hq : eqK ag ks k k' with
    | none => rw [hq] at h; simp at h
    | some b =>
      rw [hq] at h
      cases b with
      | true =>
        simp only [Option.some.injEq] at h
        subst h
        exact ⟨Nat.le_refl _, (k', v'), by simp, hq⟩
      | false =>
        obtain ⟨h1, e, h2, h3⟩ := Zsh h
        refine ⟨by omega, e, ?_, h3⟩
        obtain ⟨q, hq⟩ : ∃ q, j - i = q + 1 := ⟨j - i - 1, by omega⟩
        rw [hq, List.getElem?_cons_succ, ← h2]
        congr 1
        omega

theorem Rel.map {id g b n m gg nn : Nat} {es es' : List (V × V)} {ents ents' : Array MapEntry} {clock clock' : Nat} (h : Rel C B X H w) (hl : H[id]? = some (some (g, .map es))) (hm : X.μ id = some (b, n, m)) (hF : X.F b = none)
    (hb : w.heap[b]? = some (.map ents clock)) (hs : ents'.size = es'.length)
    (he : ∀ (i : Nat) (e : V × V), es'[i]? = some e → Zcc e.2 = true ∧ ∃ ent, ents'[i]? = some ent ∧ RV X e.1 ent.key ∧ RV X e.2 ent.val) :
    SimU C B X (H.set id (some (g, .map es'))) gg nn (.ok () { w with heap := w.heap.setIfInBounds b (.map ents' clock') }) := by
  have hid : id < H.length := (List.getElem?_eq_some_iff.1 hl).1
  have hbl : b < w.heap.size := (Array.getElem?_eq_some_iff.1 hb).1
  obtain ⟨h1, h2⟩ := h.set (g := g) (o := .map es') (m := some (b, n, m)) (w' := { w with heap := w.heap.setIfInBounds b (.map ents' clock') }) hid (.inr ⟨hm, _, hl, rfl⟩)
    (fun b' hb' _ => by
      have : b' ≠ b := fun e => hb' n m (by rw [e])
      simp [Array.getElem?_setIfInBounds, Ne.symm this])
    (fun b' n' k e => by cases e; exact ⟨hF, h.own id g _ b n m hl hm hF, fun id' g' o' n' k' hne hl' hm' => hne (h.inj id' id g' g o' _ b n' k' n m hl' hl hm' hm hF)⟩)
    (by simp) rfl rfl rfl
    (fun hle => ⟨b, n, m, ents', clock', by simp [Cx.put], hF, by simp [Array.getElem?_setIfInBounds, hbl], hs, fun i e hi => by
      obtain ⟨q1, ent, q2, q3, q4⟩ := he i e hi
      exact ⟨q1, ent, q2, q3.weak hle, q4.weak hle⟩⟩)
  refine ⟨_, _, rfl, h1, h2, fun i k hk => ?_⟩
  rcases hk with hk | ⟨rfl, rfl⟩
  · exact .inl hk
  · exact .inl (h.obj _ _ _ hl).1

theorem Zyz {ci : Bool → Nat → List V → Option (V × Option (List V × Kd))} {own : List (Nat × Nat)} {id g n : Nat} {ag : Bool} {ks : List SK} {y y' y2 : Opd} {mv kv xv v : V} {m k x : Value} {t kt e : TypeId} {r ws : List Nat}
    (h : Rel C B X H w) (hu : P.underlying t = some (.map kt e)) (hk : shpB P kt ag ks = true) (hm : RV X mv m) (hkv : RV X kv k) (hx : RV X xv x)
    (hp : runP (Zaz ci own id g (.mup ag ks y y' y2) [mv, kv, xv]) H = some (v, H', r, ws)) : v = .junk ∧ SimU C B X H' g n ((Instr.mapUpdate t m k x).run P w) := by
  unfold Zaz at hp
  simp only at hp
  cases hm <;> (try exact (Zaw hp).elim)
  rename_i i gi b hg hl
  obtain ⟨⟨hw, hok⟩, hp⟩ := Zbw hp
  obtain ⟨o, r1, ho, hp, _⟩ := Zdv hp
  cases o <;> (try exact (Zaw hp).elim)
  rename_i es
  obtain ⟨n1, m1, hm⟩ := hl (by rw [h.lv]; exact Zbl.2 ⟨_, ho, rfl⟩)
  obtain ⟨hF, ents, clock, hb, hs, he⟩ := (h.obj _ _ _ ho).2.map_ents hm
  simp only at hp
  have fin : ∀ (res : Option Nat), Zgi ag ks kv es 0 = some res → (Instr.findKey kt k ents.toList).run P w = .ok (res.bind fun j => (ents.toList[j]?).map fun ent => (j, ent.val)) w := fun res hr =>
    (Zhv (P := P) (w := w) (es := es) (ents := ents.toList) (res := res) hk hkv (by rw [Array.length_toList]; exact hs) (fun j e hj => by obtain ⟨_, ent, h1, h2, _⟩ := he j e hj; exact ⟨ent, h1, h2⟩) hr).1
  have hget := MapKept.run_getObj_map (P := P) hb
  have hck := fun (w1 : World) => Zfs (P := P) (w := w1) hk hkv hok false
  split at hp
  · rename_i j hj
    have f1 := fin _ hj
    obtain ⟨ws1, hid, hp, _⟩ := Zcj hp
    obtain ⟨rfl, rfl⟩ := Zau hp
    refine ⟨rfl, ?_⟩
    obtain ⟨_, e0, he0, heq⟩ := Zsh hj
    simp only [Nat.sub_zero] at he0
    obtain ⟨_, ent, q1, q2, q3⟩ := he j e0 he0
    have q1' : ents[j]? = some ent := by simpa using q1
    simp only [Option.bind_some, q1, Option.map_some] at f1
    have hsb : Instr.sameBits 10000 ent.key k = true := Ybu hkv q2 heq
    have hrun : (Instr.mapUpdate t (.map (some b)) k x).run P w = .ok () { w with heap := w.heap.setIfInBounds b (.map (ents.modify j fun e => { e with key := k, val := x }) clock) } := by
      simp [Instr.mapUpdate, run_underlying hu, hget, hck, f1, q1', Instr.keyThatStays, hsb, MapKept.run_setObj_map _ hb]
    rw [hrun]
    have hj' : j < es.length := (List.getElem?_eq_some_iff.1 he0).1
    refine h.map ho hm hF hb (by simpa using hs) fun i' e' hi' => ?_
    rw [List.getElem?_set] at hi'
    rw [Array.getElem?_modify]
    by_cases ej : j = i'
    · subst ej
      simp only [hj', if_true, Option.some.injEq] at hi'
      subst hi'
      exact ⟨hw, { ent with key := k, val := x }, by simp [q1'], hkv, hx⟩
    · rw [if_neg ej] at hi'
      obtain ⟨p1, ent', p2, p3, p4⟩ := he i' e' hi'
      refine ⟨p1, ent', ?_, p3, p4⟩
      simpa [ej] using p2
  · rename_i hj
    have f1 := fin _ hj
    obtain ⟨ws1, hid, hp, _⟩ := Zcj hp
    obtain ⟨rfl, rfl⟩ := Zau hp
    refine ⟨rfl, ?_⟩
    simp only [Option.bind_none] at f1
    have hrun : (Instr.mapUpdate t (.map (some b)) k x).run P w = .ok () { w with heap := w.heap.setIfInBounds b (.map (ents.push { key := k, val := x, born := clock }) (clock + 1)) } := by
      simp [Instr.mapUpdate, run_underlying hu, hget, hck, f1, MapKept.run_setObj_map _ hb]
    rw [hrun]
    refine h.map ho hm hF hb (by simp [hs]) fun i' e' hi' => ?_
    rw [List.getElem?_append] at hi'
    rw [Array.getElem?_push]
    split at hi'
    · rename_i hlt
      obtain ⟨p1, ent', p2, p3, p4⟩ := he i' e' hi'
      rw [if_neg (by omega)]
      exact ⟨p1, ent', by simpa using p2, p3, p4⟩
    · rename_i hlt
      have : i' - es.length = 0 := by
        have := (List.getElem?_eq_some_iff.1 hi').1
        simp at this; omega
      rw [this] at hi'
      simp at hi'
      subst hi'
      rw [if_pos (by omega)]
      exact ⟨hw, _, rfl, hkv, hx⟩
  · exact (Zaw hp).elim

/-! ### Append and copy -/
theorem RO.nilo {id : Nat} {cs : List V} (h : RO C X w id (.cells cs .nilo)) : X.μ id = none ∧ cs = [] := by
  unfold RO at h
  cases hm : X.μ id with
  | none => rw [hm] at h; exact ⟨rfl, h.2⟩
  | some q =>
    obtain ⟨b, n, m⟩ := q
    rw [hm] at h
    exact absurd rfl h.1

/-- What a slice shows: its length, its cells, in whatever world with this heap. -/
def Zqr (P : Program) (X : Cx) (w : World) (sz : Nat) (x : Value) (us : List V) (m : Nat) (vs : List Value) : Prop :=
  us.length = m * sz ∧ vs.length = m * sz ∧ Zcv X us (fun j => vs[j]?) ∧ (∃ a c, x = .slice a m c ∧ (a = none → m * sz = 0)) ∧ ∀ (w1 : World) (k : Nat), w1.heap = w.heap → k ≤ m → (Builtin.firstCells sz k x).run P w1 = .ok (vs.take (k * sz)).toArray w1

theorem Zji {b q sz m c : Nat} {us : List V} (hL : Lies X w b q us) (hn : us.length = m * sz) : ∃ vs, Zqr P X w sz (.slice (some ⟨b, q, none⟩) m c) us m vs := by
  let f : Nat → Value := fun j => (w.cell? ⟨b, q + j, none⟩).getD undef
  have hc : ∀ j, j < us.length → w.cell? ⟨b, q + j, none⟩ = some (f j) := fun j hj => by
    obtain ⟨_, x, hx, _⟩ := hL j us[j] (List.getElem?_eq_getElem hj)
    simp [f, hx]
  refine ⟨(List.range us.length).map f, hn, by simp [hn], fun j v hv => ?_, ⟨_, _, rfl, by simp⟩, fun w1 k hw hk => ?_⟩
  · obtain ⟨h1, x, h2, h3⟩ := hL j v hv
    have hj := (List.getElem?_eq_some_iff.1 hv).1
    refine ⟨h1, f j, by simp [List.getElem?_range, hj], ?_⟩
    simpa [f, h2] using h3
  · have hks : k * sz ≤ m * sz := Nat.mul_le_mul_right _ hk
    refine run_firstCells_some w1 sz k _ m c _ (by simp; omega) fun j v hv => ?_
    rw [Zey]
    rw [List.getElem?_take] at hv
    split at hv
    · rename_i hj
      rw [List.getElem?_map, List.getElem?_range (by omega)] at hv
      simp at hv
      rw [← hv, ← hc j (by omega)]
      simp [World.cell?, hw]
    · cases hv
theorem Zhf {sz c : Nat} {a : Option Addr} : Zqr P X w sz (.slice a 0 c) [] 0 [] := by
  refine ⟨by simp, by simp, fun j v hv => by simp at hv, ⟨_, _, rfl, by simp⟩, fun w1 k _ hk => ?_⟩
  have : k = 0 := by omega
  subst this
  cases a with
  | none => simp [Builtin.firstCells]
  | some a => simp [Builtin.firstCells, loadCells, loadCellsFrom]

theorem Zsg {id g sz off len n : Nat} {cap : Option Nat} {a : Option Addr} {c' : Nat} {cs : List V} {kd : Kd} (h : Rel C B X H w) (ho : H[id]? = some (some (g, .cells cs kd))) (hle : off + len * sz ≤ cs.length)
    (hs : SlR (X.μ id) sz off len cap cs.length a c') : ∃ vs, Zqr P X w sz (.slice a len c') (cut cs off (len * sz)) len vs := by
  unfold SlR at hs
  split at hs
  · obtain ⟨rfl, _, rfl, rfl, _⟩ := hs
    refine ⟨[], ?_⟩
    simp only [Nat.zero_mul, cut, List.take_zero]
    exact Zhf
  · rename_i b base tot hm
    rcases hs with ⟨rfl, _⟩ | ⟨_, rfl, rfl, _⟩
    · exact Zji ((h.lies ho hm).1.cut off (len * sz)) (Zbp hle)
    · refine ⟨[], ?_⟩
      simp only [Nat.zero_mul, cut, List.take_zero]
      exact Zhf

theorem Zta {sz : Nat} {xv v : V} {x : Value} {k : List V → Nat → Plan} {r ws : List Nat} (h : Rel C B X H w) (hx : RV X xv x) (hp : runP (Zjk sz xv k) H = some (v, H', r, ws)) :
    ∃ us m vs r', Zqr P X w sz x us m vs ∧ runP (k us m) H = some (v, H', r', ws) := by
  unfold Zjk at hp
  cases hx <;> (try exact (Zaw hp).elim)
  case nils => exact ⟨[], 0, [], r, Zhf, hp⟩
  case arr cells sz' len cap b o0 c' xs hz hpu hn hc hlc h1 h2 =>
    simp only at hp
    obtain ⟨⟨hs1, hn'⟩, hp2⟩ := Zbw hp
    clear hp
    subst hs1
    obtain ⟨vs, hvs⟩ := Zji (P := P) (c := c') (Zhs h h1 h2) hn'
    exact ⟨_, _, vs, r, hvs, hp2⟩
  case sl id g sz' off len cap a c' hg hz hlc hc ha hl =>
    simp only at hp
    obtain ⟨rfl, hp⟩ := Zbw hp
    obtain ⟨o, r1, ho, hp, _⟩ := Zdv hp
    cases o <;> (try exact (Zaw hp).elim)
    rename_i cs kd
    obtain ⟨hle, hp⟩ := Zbw hp
    obtain ⟨vs, hvs⟩ := Zsg (P := P) (n := 0) h ho hle (hl cs.length (by rw [h.lv]; exact Zbl.2 ⟨_, ho, rfl⟩))
    exact ⟨_, _, vs, r1, hvs, hp⟩

theorem Zev {ts : Array TypeId} {t t' ty e e' : TypeId} {sz sLen sCap m : Nat} {base : Option Addr} {x : Value} {us : List V} {vs : List Value} (hts : ts[0]? = some t) (hts' : ts[1]? = some t') (ht : P.underlying t = some (.slice e)) (ht' : P.underlying t' = some (.slice e')) (hsz : szB P e sz = true)
    (hx : Zqr P X w sz x us m vs) (hroom : sLen + m ≤ sCap) (hst : (match base with | some a => storeCells (a.add (sLen * sz)) vs | none => pure ()).run P w = .ok () w') :
    (Builtin.append_ ts ty #[.slice base sLen sCap, x]).run P w = .ok (.slice base (sLen + m) sCap) w' := by
  obtain ⟨_, hv, _, ⟨a, c, rfl, _⟩, hf⟩ := hx
  have hf' := hf w m rfl (Nat.le_refl _)
  rw [List.take_of_length_le (by omega)] at hf'
  cases base with
  | none => simp at hst; subst hst; simp [Builtin.append_, hts, hts', run_underlying ht, run_underlying ht', Zbh hsz, Builtin.lenOf, hroom, hf']
  | some b => simp [Builtin.append_, hts, hts', run_underlying ht, run_underlying ht', Zbh hsz, Builtin.lenOf, hroom, hf', hst]
theorem Zgr {ts : Array TypeId} {t t' ty e e' : TypeId} {i : TypeInfo} {z : Value} {sz bytes sLen sCap m : Nat} {base : Option Addr} {x : Value} {us os : List V} {vs olds : List Value} (hts : ts[0]? = some t) (hts' : ts[1]? = some t') (ht : P.underlying t = some (.slice e)) (ht' : P.underlying t' = some (.slice e'))
    (hi : P.info? e = some i) (hz : i.zero = some z) (hby : i.bytes = bytes) (hsz : szB P e sz = true) (hx : Zqr P X w sz x us m vs) (hs : Zqr P X w sz (.slice base sLen sCap) os sLen olds) (hg : sCap < sLen + m) (hb : (sLen + m) * bytes ≤ Zcp) (h0 : 0 < bytes) :
    (Builtin.append_ ts ty #[.slice base sLen sCap, x]).run P w =
      .ok (.slice (some ⟨w.heap.size, 0, none⟩) (sLen + m) (grownCap w (sLen + m) sCap e)) (w.drew.alloc (.cells (olds.toArray ++ vs.toArray ++ Builtin.zeroCells z.cells (grownCap w (sLen + m) sCap e - (sLen + m))) e)) := by
  obtain ⟨_, hv, _, ⟨a, c, rfl, _⟩, hf⟩ := hx
  obtain ⟨_, hv2, _, _, hf2⟩ := hs
  have hf' := hf w.drew m rfl (Nat.le_refl _)
  rw [List.take_of_length_le (by omega)] at hf'
  have hf2' := hf2 w.drew sLen rfl (Nat.le_refl _)
  rw [List.take_of_length_le (by omega)] at hf2'
  subst hby
  have hn : ¬ (sLen + m ≤ sCap) := by omega
  have hle : (sLen + m) ≤ Zcp := Nat.le_trans (Nat.le_mul_of_pos_right _ h0) hb
  simp only [Zcp] at hle hb
  have h63' : ¬ (9223372036854775807 < ((sLen : Int) + (m : Int))) := by omega
  have h48' : ¬ (281474976710656 < Builtin.nextslicecap (sLen + m) sCap * i.bytes) := by have := growslice_fits (bytes := i.bytes) hg hb; omega
  simp [Builtin.append_, hts, hts', run_underlying ht, run_underlying ht', Zbh hsz, typeInfo, zeroValue, hi, hz, Builtin.lenOf, hn, h63', h48', Question.forced, hf', hf2', newRow, grownCap]
  congr 2
  apply Array.ext'
  simp [List.append_assoc]

/-- A new object of an append that grew. -/
theorem Zod {id g n sz m len c' : Nat} {us os : List V} {vs olds : List Value} {z : Value} {e : TypeId} (h : Rel C B X H w) (hid : id < H.length) (hfresh : ∀ i k, X.iss i k → k ≠ g) (hn : 1 ≤ n) (h0 : 0 < sz)
    (hu : us.length = m * sz) (hv : vs.length = m * sz) (hc : Zcv X us (fun j => vs[j]?)) (hu2 : os.length = len * sz) (hv2 : olds.length = len * sz) (hc2 : Zcv X os (fun j => olds[j]?)) (hz : z.cells.size = sz) (hcap : len + m ≤ c') :
    SimR C B X (.sl id g sz 0 (len + m) none) (H.set id (some (g, .cells (os ++ us) .loose))) g n
      (.ok (.slice (some ⟨w.heap.size, 0, none⟩) (len + m) c') (w.drew.alloc (.cells (olds.toArray ++ vs.toArray ++ Builtin.zeroCells z.cells (c' - (len + m))) e))) := by
  have hsum : len * sz + m * sz = (len + m) * sz := (Nat.add_mul _ _ _).symm
  have hcz : (len + m) * sz ≤ c' * sz := Nat.mul_le_mul_right _ hcap
  have hw : Rel C B X H w.drew := h.world rfl rfl rfl rfl
  have hsize : (olds.toArray ++ vs.toArray ++ Builtin.zeroCells z.cells (c' - (len + m))).size = c' * sz := by
    simp only [Array.size_append, List.size_toArray, size_zeroCells, hv, hv2, hz, hsum, ← Nat.add_mul]
    congr 1; omega
  obtain ⟨h1, h2⟩ := hw.newCells (id := id) (g := g) (t := e) (kd := .loose) (cs := os ++ us) (c := olds.toArray ++ vs.toArray ++ Builtin.zeroCells z.cells (c' - (len + m))) hid (hfresh id) ⟨by simp, by simp⟩
    (by rw [hsize]; simp; omega) (fun j v hj => by
      rw [List.getElem?_append] at hj
      simp only
      rw [Array.getElem?_append_left (by
        have := (List.getElem?_eq_some_iff.1 (show (os ++ us)[j]? = some v by rw [List.getElem?_append]; exact hj)).1
        simp at this ⊢; omega)]
      split at hj
      · rename_i hlt
        obtain ⟨q1, x, q2, q3⟩ := hc2 j v hj
        refine ⟨q1, x, ?_, q3⟩
        rw [Array.getElem?_append_left (by simp; omega)]
        simpa using q2
      · rename_i hlt
        obtain ⟨q1, x, q2, q3⟩ := hc _ v hj
        refine ⟨q1, x, ?_, q3⟩
        rw [Array.getElem?_append_right (by simp; omega)]
        simp only [List.size_toArray, hv2, List.getElem?_toArray]
        rw [← hu2]; exact q2)
  rw [hsize] at h1 h2
  refine ⟨_, _, _, rfl, h1, h2, ?_, Zib hn⟩
  exact Zzk hid h0 hcap (by simp) (Nat.le_refl _) (by simp; omega) (by simp) (fun _ => by simp; omega)

theorem Zsk {H : Heap} {i : Nat} {x : Option (Nat × O)} (h : H[i]? = some x) : H.set i x = H := by
  obtain ⟨hi, rfl⟩ := List.getElem?_eq_some_iff.1 h
  exact List.set_getElem_self hi
/-- An append that stays in its row, of which the abstract one knows no more than that it has room. -/
theorem Yaf {i gi g n sz m len off c' b base tot : Nat} {us cs : List V} {vs : List Value} {kd : Kd} (h : Rel C B X H w) (ho : H[i]? = some (some (gi, .cells cs kd))) (hm : X.μ i = some (b, base, tot)) (hkd : kd ≠ .froz)
    (hfresh : ∀ i k, X.iss i k → k ≠ g) (hn : 1 ≤ n) (h0 : 0 < sz) (hu : us.length = m * sz) (hv : vs.length = m * sz) (hc : Zcv X us (fun j => vs[j]?)) (hroom : len + m ≤ c') (hle : off + len * sz ≤ cs.length) (htot : base + off + c' * sz ≤ tot) :
    ∃ w', (storeCells ⟨b, base + off + len * sz, none⟩ vs).run P w = .ok () w' ∧
      SimR C B X (.sl i g sz 0 (len + m) none) (H.set i (some (g, .cells (cut cs off (len * sz) ++ us) .loose))) g n (.ok (.slice (some ⟨b, base + off, none⟩) (len + m) c') w') := by
  have hsum : len * sz + m * sz = (len + m) * sz := (Nat.add_mul _ _ _).symm
  have hcz : (len + m) * sz ≤ c' * sz := Nat.mul_le_mul_right _ hroom
  obtain ⟨hL, hnl, c, t, hb, hs, hlen, hf⟩ := h.lies ho hm
  have hF : X.F b = none := by rcases hf with ⟨e, _⟩ | ⟨_, e⟩; exact absurd e hkd; exact e
  have hone : ∀ v ∈ vs, v.oneCell' = true := fun v hv' => by
    obtain ⟨j, hj⟩ := List.mem_iff_getElem?.1 hv'
    have hlt : j < us.length := by have := (List.getElem?_eq_some_iff.1 hj).1; omega
    obtain ⟨h1, x, h2, h3⟩ := hc j us[j] (List.getElem?_eq_getElem hlt)
    have h2' : vs[j]? = some x := h2
    rw [hj] at h2'
    cases h2'
    exact h3.oneCell h1
  have hrun := run_storeCells_at P b (base + off + len * sz) t vs 0 c w hb (by omega) hone
  have hid : i < H.length := (List.getElem?_eq_some_iff.1 ho).1
  have hbig : base + off + len * sz + vs.length ≤ c.toList.length := by simp; omega
  have hsz : (c.toList.take (base + off + len * sz + 0) ++ vs ++ c.toList.drop (base + off + len * sz + 0 + vs.length)).toArray.size = tot := by
    simp only [List.size_toArray, List.length_append, List.length_take, List.length_drop, Array.length_toList]
    omega
  have key := h.putCells (id := i) (g := g) (b := b) (base := base + off) (cs := cut cs off (len * sz) ++ us) (kd := .loose) (c := (c.toList.take (base + off + len * sz + 0) ++ vs ++ c.toList.drop (base + off + len * sz + 0 + vs.length)).toArray) (t := t)
    (w' := w.setRow b (c.toList.take (base + off + len * sz + 0) ++ vs ++ c.toList.drop (base + off + len * sz + 0 + vs.length)).toArray) hid
    (.inl (hfresh i)) (setRow_heap w b c _ t _ hb) (fun k hk _ => setRow_other w b k _ hk)
    ⟨hF, h.own i gi _ b base tot ho hm hF, fun id' g' o' n' k' hne hl' hm' => hne (h.inj id' i g' gi o' _ b n' k' base tot hl' ho hm' hm hF)⟩
    (by simp) rfl rfl rfl ⟨by simp, by simp⟩ (by rw [hsz, List.length_append, Zbp hle]; omega) (fun j v hj => by
      rw [List.getElem?_append, Zbp hle] at hj
      show _ ∧ ∃ x, ((c.toList.take (base + off + len * sz + 0) ++ vs ++ c.toList.drop (base + off + len * sz + 0 + vs.length)).toArray)[base + off + j]? = some x ∧ _
      simp only [Nat.add_zero, List.getElem?_toArray]
      rw [Zwj hbig]
      split at hj
      · rename_i hlt
        rw [if_neg (by omega)]
        obtain ⟨q1, x, q2, q3⟩ := (hL.cut off (len * sz)) j v hj
        refine ⟨q1, x, ?_, q3⟩
        rw [Array.getElem?_toList]
        simpa [World.cell?, hb] using q2
      · rename_i hlt
        have hju := (List.getElem?_eq_some_iff.1 hj).1
        rw [if_pos (by omega)]
        obtain ⟨q1, x, q2, q3⟩ := hc _ v hj
        refine ⟨q1, x, ?_, q3⟩
        rw [← q2]
        show vs[base + off + j - (base + off + len * sz)]? = vs[j - len * sz]?
        congr 1
        omega)
  rw [hsz] at key
  refine ⟨_, hrun, _, _, _, rfl, key.1, key.2, ?_, Zib hn⟩
  refine .sl i g sz 0 (len + m) none _ c' (.inr ⟨rfl, rfl⟩) h0 hroom (by simp) (fun _ => rfl) fun q hq => ?_
  have hq' : lvH (H.set i (some (g, .cells (cut cs off (len * sz) ++ us) .loose))) i g = some (.cells q) := hq
  obtain ⟨o, ho', hk⟩ := Zbl.1 hq'
  rw [Zeh hid] at ho'
  simp only [if_true, Option.some.injEq, Prod.mk.injEq] at ho'
  obtain ⟨_, rfl⟩ := ho'
  simp only [lkO, LK.cells.injEq, List.length_append, Zbp hle] at hk
  subst hk
  unfold SlR
  simp only [Cx.put, if_true]
  left
  exact ⟨by simp, by omega, by omega, by simp, fun _ => by omega⟩

theorem Ygx {ci : Bool → Nat → List V → Option (V × Option (List V × Kd))} {own : List (Nat × Nat)} {id g n sz bytes : Nat} {y y' : Opd} {sv xv v : V} {s x : Value} {ts : Array TypeId} {t t' ty e e' : TypeId} {r ws : List Nat}
    (h : Rel C B X H w) (hf : Zgh X g n) (hn : 1 ≤ n) (hts : ts[0]? = some t) (hts' : ts[1]? = some t') (ht : P.underlying t = some (.slice e)) (ht' : P.underlying t' = some (.slice e')) (hsz : szB P e sz = true) (hby : byB P e bytes = true)
    (hz : ∃ i z, P.info? e = some i ∧ i.zero = some z ∧ z.cells.size = sz) (hs : RV X sv s) (hx : RV X xv x) (hz0 : 0 < sz)
    (hp : runP (Zaz ci own id g (.app sz bytes y y') [sv, xv]) H = some (v, H', r, ws)) : SimR C B X v H' g n ((Builtin.append_ ts ty #[s, x]).run P w) := by
  obtain ⟨i, z, hi, hiz, hzs⟩ := hz
  obtain ⟨i', hi', hb'⟩ := Ztf hby
  rw [hi] at hi'; cases hi'
  unfold Zaz at hp
  simp only at hp
  unfold appP at hp
  obtain ⟨us, m, vs, r1, hsh, hp'⟩ := Zta (P := P) h hx hp
  clear hp
  have hp := hp'
  clear hp'
  have hfr := fun id => hf.ne hn (id := id)
  have hcells := hsh.2.2.1
  cases hs <;> (try exact (Zaw hp).elim)
  case nils =>
    simp only at hp
    split at hp
    · rename_i hm
      subst hm
      obtain ⟨rfl, rfl⟩ := Zau hp
      have hvs : vs = [] := List.eq_nil_of_length_eq_zero (by have := hsh.2.1; omega)
      subst hvs
      rw [Zev (ty := ty) (w' := w) (base := none) hts hts' ht ht' hsz hsh (Nat.le_refl _) rfl]
      exact SimR.same h .nils
    · rename_i hm
      obtain ⟨⟨q1, q2⟩, hp⟩ := Zbw hp
      obtain ⟨ws1, hid, hp, _⟩ := Zcj hp
      obtain ⟨rfl, rfl⟩ := Zau hp
      rw [Zgr (ty := ty) hts hts' ht ht' hi hiz hb' hsz hsh Zhf (by omega) (by simpa using q1) q2]
      have := Zod (os := []) (olds := []) (len := 0) (n := n) (z := z) (e := e) h hid hfr hn hz0 hsh.1 hsh.2.1 hcells (by simp) (by simp) (fun j v hv => by simp at hv) hzs (grownCap_ge w (0 + m) 0 e)
      simpa using this
  case arr cells sz' len cap b o0 c' xs hz1 hpu hn' hc hlc h1 h2 =>
    cases cap with
    | none => exact (Zaw hp).elim
    | some cc =>
      simp only at hp
      obtain ⟨⟨rfl, q0, q1, q2, q3⟩, hp⟩ := Zbw hp
      obtain ⟨ws1, hid, hp, _⟩ := Zcj hp
      obtain ⟨rfl, rfl⟩ := Zau hp
      have hcc := hc cc rfl
      subst hcc
      obtain ⟨olds, hso⟩ := Zji (P := P) (c := c') (Zhs h h1 h2) hn'
      rw [Zgr (ty := ty) hts hts' ht ht' hi hiz hb' hsz hsh hso q1 q2 q3]
      exact Zod h hid hfr hn hz0 hsh.1 hsh.2.1 hcells hso.1 hso.2.1 hso.2.2.1 hzs (grownCap_ge w (len + m) c' e)
  case sl i gi sz' off len cap a c' hg hz1 hlc hc ha hl =>
    simp only at hp
    obtain ⟨⟨rfl, q1, q2⟩, hp⟩ := Zbw hp
    obtain ⟨o, r2, ho, hp, _⟩ := Zdv hp
    cases o <;> (try exact (Zaw hp).elim)
    rename_i cs kd
    simp only at hp
    obtain ⟨hle, hp⟩ := Zbw hp
    have hq := hp
    repeat clear hp
    have hp := hq
    clear hq
    have hsl := hl cs.length (by rw [h.lv]; exact Zbl.2 ⟨_, ho, rfl⟩)
    obtain ⟨olds, hso⟩ := Zsg (P := P) (n := 0) h ho hle hsl
    have grow : ∀ {id' : Nat}, c' < len + m → id' < H.length → SimR C B X (.sl id' g sz' 0 (len + m) none) (H.set id' (some (g, .cells (cut cs off (len * sz') ++ us) .loose))) g n
        ((Builtin.append_ ts ty #[.slice a len c', x]).run P w) := fun hlt hid => by
      rw [Zgr (ty := ty) hts hts' ht ht' hi hiz hb' hsz hsh hso hlt q1 q2]
      exact Zod h hid hfr hn hz0 hsh.1 hsh.2.1 hcells hso.1 hso.2.1 hso.2.2.1 hzs (grownCap_ge w (len + m) c' e)
    have hus : ∀ {k : Nat}, k ≤ 0 → m * sz' ≤ k → us = [] ∧ vs = [] := fun hk hm => ⟨List.eq_nil_of_length_eq_zero (by have := hsh.1; omega), List.eq_nil_of_length_eq_zero (by have := hsh.2.1; omega)⟩
    have store : kd ≠ .froz → kd ≠ .nilo → len + m ≤ c' → off + (len + m) * sz' ≤ cs.length → SimR C B X (.sl i gi sz' off (len + m) cap) (H.set i (some (gi, .cells (Zbf cs (off + len * sz') us) kd))) g n
        ((Builtin.append_ ts ty #[.slice a len c', x]).run P w) := fun hkd hkn hlt hfit => by
      rw [Nat.add_mul] at hfit
      unfold SlR at hsl
      split at hsl
      · rename_i hmu
        have := (h.obj _ _ _ ho).2
        unfold RO at this
        rw [hmu] at this
        exact absurd this.1 hkn
      · rename_i b base tot hm
        rcases hsl with ⟨rfl, t1, t2, t3, t4⟩ | ⟨t1, rfl, rfl, t2⟩
        · obtain ⟨w', s1, s2, s3, s4, _⟩ := h.store (P := P) (off := off + len * sz') (xs := us) (vs := vs) ho hm hkd hcells (by rw [hsh.1, hsh.2.1]) (by rw [hsh.1]; omega)
          rw [Zev (ty := ty) (w' := w') (base := some ⟨b, base + off, none⟩) hts hts' ht ht' hsz hsh hlt (by simp only [Zey]; rw [Nat.add_assoc]; exact s1)]
          refine ⟨_, _, w', rfl, s2, s3, ?_, fun i k hk => .inl (s4 i k hk)⟩
          refine .sl i gi sz' off (len + m) cap _ c' (.inl hg) hz0 hlt hc (fun _ => rfl) fun q hq => ?_
          have hq' : lvH (H.set i (some (gi, .cells (Zbf cs (off + len * sz') us) kd))) i gi = some (.cells q) := hq
          obtain ⟨o, ho', hk⟩ := Zbl.1 hq'
          rw [Zeh (List.getElem?_eq_some_iff.1 ho).1] at ho'
          simp only [if_true, Option.some.injEq, Prod.mk.injEq] at ho'
          obtain ⟨_, rfl⟩ := ho'
          simp only [lkO, LK.cells.injEq, Zej (show off + len * sz' + us.length ≤ cs.length by rw [hsh.1]; omega)] at hk
          subst hk
          unfold SlR
          simp only [Cx.put, if_true]
          left
          exact ⟨trivial, t1, by rw [Nat.add_mul]; omega, t3, t4⟩
        · have hm0 : m = 0 := by omega
          subst hm0
          have hus0 : us = [] := List.eq_nil_of_length_eq_zero (by have := hsh.1; omega)
          have hvs0 : vs = [] := List.eq_nil_of_length_eq_zero (by have := hsh.2.1; omega)
          subst hus0 hvs0
          have hsp : H.set i (some (gi, .cells (Zbf cs (off + 0 * sz') []) kd)) = H := by
            have : Zbf cs (off + 0 * sz') [] = cs := by simp [Zbf]
            rw [this]
            exact Zsk ho
          rw [hsp]
          rw [Zev (ty := ty) (w' := w) hts hts' ht ht' hsz hsh (Nat.le_refl _) (by cases a <;> simp [storeCells])]
          exact SimR.same h (.sl i gi sz' off 0 cap a 0 hg hz0 (Nat.le_refl _) hc ha hl)
    cases cap with
    | some cc =>
      have hcc := hc cc rfl
      subst hcc
      simp only at hp
      split at hp
      · rename_i hlt
        obtain ⟨ws1, hid, hp, _⟩ := Zcj hp
        obtain ⟨rfl, rfl⟩ := Zau hp
        exact grow hlt hid
      · rename_i hlt
        cases kd with
        | nilo => exact (Zaw hp).elim
        | froz => exact (Zaw hp).elim
        | fixed =>
          obtain ⟨hfit, hp⟩ := Zbw hp
          obtain ⟨ws1, hid, hp, _⟩ := Zcj hp
          obtain ⟨rfl, rfl⟩ := Zau hp
          exact store (by simp) (by simp) (by omega) hfit
        | loose =>
          obtain ⟨hfit, hp⟩ := Zbw hp
          obtain ⟨ws1, hid, hp, _⟩ := Zcj hp
          obtain ⟨rfl, rfl⟩ := Zau hp
          exact store (by simp) (by simp) (by omega) hfit
    | none =>
      cases kd with
      | fixed => exact (Zaw hp).elim
      | froz => exact (Zaw hp).elim
      | nilo =>
        simp only at hp
        have hro := (h.obj _ _ _ ho).2
        obtain ⟨hmu, rfl⟩ := hro.nilo
        unfold SlR at hsl
        rw [hmu] at hsl
        obtain ⟨rfl, _, rfl, rfl, _, rfl⟩ := hsl
        split at hp
        · rename_i hm0
          subst hm0
          obtain ⟨rfl, rfl⟩ := Zau hp
          have hvs : vs = [] := List.eq_nil_of_length_eq_zero (by have := hsh.2.1; omega)
          subst hvs
          rw [Zev (ty := ty) (w' := w) (base := none) hts hts' ht ht' hsz hsh (Nat.le_refl _) rfl]
          exact SimR.same h (.sl i gi sz' 0 0 none none 0 hg hz0 (Nat.le_refl _) hc ha hl)
        · rename_i hm0
          obtain ⟨ws1, hid, hp, _⟩ := Zcj hp
          obtain ⟨rfl, rfl⟩ := Zau hp
          have := grow (id' := i) (by omega) hid
          simpa [cut] using this
      | loose =>
        simp only at hp
        split at hp
        · rename_i hfit
          obtain ⟨ws1, hid, hp, _⟩ := Zcj hp
          obtain ⟨rfl, rfl⟩ := Zau hp
          refine store (by simp) (by simp) ?_ hfit
          unfold SlR at hsl
          rw [Nat.add_mul] at hfit
          split at hsl
          · rename_i hmu
            have := (h.obj _ _ _ ho).2
            unfold RO at this
            rw [hmu] at this
            simp at this
          · rcases hsl with ⟨_, _, _, _, t4⟩ | ⟨_, rfl, rfl, t4⟩
            · have := t4 rfl
              have h3 : (len + m) * sz' ≤ c' * sz' := by rw [Nat.add_mul]; omega
              exact Nat.le_of_mul_le_mul_right h3 hz0
            · have := t4 rfl
              have : m * sz' ≤ 0 := by omega
              have := Nat.le_of_mul_le_mul_right (show m * sz' ≤ 0 * sz' by omega) hz0
              omega
        · rename_i hfit
          obtain ⟨ws1, hid, hp, _⟩ := Zcj hp
          obtain ⟨rfl, rfl⟩ := Zau hp
          by_cases hlt : c' < len + m
          · exact grow hlt hid
          · unfold SlR at hsl
            split at hsl
            · rename_i hmu
              have := (h.obj _ _ _ ho).2
              unfold RO at this
              rw [hmu] at this
              simp at this
            · rename_i b base tot hm
              rcases hsl with ⟨rfl, t1, t2, t3, t4⟩ | ⟨_, rfl, rfl, t4⟩
              · obtain ⟨w', s1, s2⟩ := Yaf (P := P) (n := n) h ho hm (by simp) (fun i => hf.ne hn (id := i)) hn hz0 hsh.1 hsh.2.1 hcells (by omega) hle t1
                rw [Zev (ty := ty) (w' := w') (base := some ⟨b, base + off, none⟩) hts hts' ht ht' hsz hsh (by omega) (by simp only [Zey]; exact s1)]
                exact s2
              · have hm0 : m = 0 := by omega
                subst hm0
                omega
end Go.AM
