/- The theorem: what 'exec' computes, the program does. -/
import Derived.Test.YteooegmokbbeoaaGauN
set_option linter.unusedSimpArgs false
set_option linter.unusedVariables false
namespace Go.AM
open Go
variable {B : Base} {X : Cx} {H H' : Heap} {w w' : World} {P : Program} {fm : Nat → Nat} {AP : Zce} {E : AC → St → Option (Ex × St)}

/-- The Zri of the numbers of which something holds. -/
theorem Zgq {p : Nat → Prop} (h : ∃ k, p k) : ∃ k, p k ∧ ∀ j, p j → k ≤ j := by
  obtain ⟨k, hk⟩ := h
  induction k using Nat.strongRecOn with
  | _ k ih =>
    by_cases hlt : ∃ j, j < k ∧ p j
    · obtain ⟨j, h1, h2⟩ := hlt; exact ih j h1 h2
    · exact ⟨k, hk, fun j hj => Nat.le_of_not_lt fun hh => hlt ⟨j, hh, hj⟩⟩
open Classical in
noncomputable def Zri (p : Nat → Prop) : Nat := if h : ∃ k, p k then (Zgq h).choose else 0
theorem Zud {p : Nat → Prop} (h : ∃ k, p k) : p (Zri p) := by unfold Zri; rw [dif_pos h]; exact (Zgq h).choose_spec.1
theorem Yal {p : Nat → Prop} {k : Nat} (h : p k) : Zri p ≤ k := by unfold Zri; rw [dif_pos ⟨k, h⟩]; exact (Zgq ⟨k, h⟩).choose_spec.2 k h

/-- A loop, by the number of rounds that are still allowed. -/
theorem Zpp {F : Fence} {n : Nat} {c : Code} {Q : Exit → Act → World → Prop} {a : Act} (R : Nat → Act → World → Prop) (k : Nat) (h0 : R k a w) (round : ∀ k a w, R k a w → c.wpIn F n P (Exit.then (fun a' w' => ∃ j, j < k ∧ R j a' w') Q) a w) :
    (Code.loop c).wpIn F n P Q a w := by
  refine wpIn_loop (fun a w => ∃ k, R k a w) (fun a w => Zri fun k => R k a w) ⟨k, h0⟩ fun a w hI => ?_
  refine wpIn_mono (round _ a w (Zud (p := fun k => R k a w) hI)) fun e a' w' hq => ?_
  cases e with
  | normal =>
    obtain ⟨j, hj, hR⟩ := hq
    exact ⟨⟨j, hR⟩, Nat.lt_of_le_of_lt (Yal (p := fun k => R k a' w') hR) hj⟩
  | _ => exact hq

theorem StR.take {D : Nat → Option Obj} {s : St} {a : Act} {l : Option Nat} (h : StR P fm B D X s w a l) (n : Nat) :
    ∃ Y, X.le Y ∧ Y.iss = X.iss ∧ StR P fm B D Y { s with H := s.H.take n } w a l := by
  obtain ⟨h1, h2⟩ := h.rel.take n
  exact ⟨_, h1, rfl, h2, h.fm, h.env.weak h1, h.iss, h.rd.weak h1, fun b o hb => h1.F _ _ (h.d b o hb)⟩

theorem Yah {H : Heap} {x : Option (Nat × O)} : (H ++ [none]).set H.length x = H ++ [x] := by
  rw [List.set_append_right _ _ (Nat.le_refl _)]
  simp

set_option maxHeartbeats 1000000 in
theorem Zuj (hP : PR P fm AP) (hE : Zfa P fm E) {keep : Bool} {f : Opd} {ps : List Nat} {asg body : AC} {g : Operand} {ps' : Array Tmp} {as bd : Code} {s s' : St} {ex : Ex} (he : step AP E (.rngf keep f ps asg body) s = some (ex, s')) (hg : chkO fm f g = true) (hps : ps = ps'.toList)
    (ha : chkC P fm asg as = true) (hb : chkC P fm body bd = true) {D : Nat → Option Obj} {a : Act} {l : Option Nat} {m : Nat} (h : StR P fm B D X s w a l) : (Code.rangeFunc g ps' as bd).wpIn (FF l) m P (Zhn P fm B D X s s' l ex) a w := by
  have hD := h.d
  have hfv : RV X (Zbz s.env f) (a.eval g) := Zsl h.env h.fm hg
  simp only [step] at he
  generalize hfe : Zbz s.env f = fv at hfv he
  generalize hgv : a.eval g = gv at hfv
  cases fv <;> simp only at he <;> (try (cases he; done))
  rename_i k fst caps
  cases hfv with
  | fn _ _ _ fs cs hfs hcs q1 q2 =>
  split at he
  · rename_i hrd
    split at he
    · rename_i v H2 γ2 hcall
      split at he
      · rename_i st pend k1 e1 ps1 a1 b1 hget
        have hst : st ≠ .busy := by rintro rfl; simp at he
        have : ∃ fn, AP k = some fn := by
          unfold Zdo at hcall
          split at hcall
          · cases hcall
          · rename_i fn hfn; exact ⟨fn, hfn⟩
        obtain ⟨fn, hfn⟩ := this
        -- what entering the loop gives
        have enter : ∀ fn : FuncId, ∃ (lp : Nat) (mark : List Deferred) (w1 : World) (Y : Cx) (dd : Nat), (Instr.enterLoop fn a.tmps ps' as bd (FF l).round).run P w = .ok (lp, mark) w1 ∧ X.le Y ∧ Rel (CC P fm) B Y (s.H ++ [some (s.γ, .loop .ready none keep s.env ps asg body)]) w1 ∧
            RV Y (.yld s.H.length s.γ) (.func (.yield lp) #[] #[]) ∧ (∀ i k, Y.iss i k → X.iss i k ∨ k = s.γ) ∧ RdR B D Y s.rd l (mark ++ a.defers) ∧ Y.F lp = none ∧ B.w0.heap.size ≤ lp := by
          intro fn
          -- the record, on a world in which it is the next block
          have lay : ∀ (Z : Cx) (wz : World) (dd : Nat), X.le Z → Z.iss = X.iss → Rel (CC P fm) B Z s.H wz → ∃ Y, Z.le Y ∧ Rel (CC P fm) B Y (s.H ++ [some (s.γ, .loop .ready none keep s.env ps asg body)]) (wz.alloc (.loop { state := .ready, pending := none, fn := fn, tmps := a.tmps, params := ps', assign := as, body := bd, defers := dd })) ∧
              RV Y (.yld s.H.length s.γ) (.func (.yield wz.heap.size) #[] #[]) ∧ (∀ i k, Y.iss i k → X.iss i k ∨ k = s.γ) ∧ Y.F = Z.F ∧ Z.F wz.heap.size = none := by
            intro Z wz dd hXZ hiss hrel
            obtain ⟨r1, r2⟩ := hrel.room 1
            have hfresh : ∀ k', (Cx.iss { Z with lv := lvH (s.H ++ List.replicate 1 none) }) s.H.length k' → k' ≠ s.γ := fun k' hk' e => by
              have : Z.iss s.H.length k' := hk'
              rw [hiss] at this
              have := h.iss _ _ this
              omega
            obtain ⟨h1, h2⟩ := r2.set (id := s.H.length) (g := s.γ) (o := .loop .ready none keep s.env ps asg body) (m := some (wz.heap.size, 0, 0)) (w' := wz.alloc (.loop { state := .ready, pending := none, fn := fn, tmps := a.tmps, params := ps', assign := as, body := bd, defers := dd })) (by simp) (.inl hfresh)
              (fun b _ hlt => by first | exact heap_alloc_old wz _ b hlt | exact heap_alloc_old wz _ hlt)
              (fun b n' k e => by cases e; exact ⟨hrel.noF, hrel.size, fun id' g' o' n' k' _ hl hm => hrel.noBlock (Zls hl) hm⟩) (by simp) rfl rfl rfl
              (fun hle => ⟨wz.heap.size, 0, 0, _, by simp [Cx.put], hrel.noF, heap_alloc_new wz _, hps.symm, ha, hb, (h.env.weak hXZ).weak (r1.trans hle), rfl, rfl⟩)
            have e1 : s.H ++ List.replicate 1 none = s.H ++ [none] := rfl
            rw [e1] at h1 h2
            rw [Yah] at h1 h2
            exact ⟨_, r1.trans h1, h2, .yld _ _ _ (.inr ⟨rfl, rfl⟩) fun _ => ⟨0, 0, by simp [Cx.put]⟩, fun i k' hk' => by
              rcases hk' with hk' | ⟨_, rfl⟩
              · have : Z.iss i k' := hk'
                rw [hiss] at this
                exact .inl this
              · exact .inr rfl, rfl, hrel.noF⟩
          rw [Yai]
          have hr := h.rd
          unfold RdR at hr
          split at hr
          · -- an outermost loop
            rename_i hsrd
            obtain ⟨z1, z2⟩ := h.rel.allocFrozen (ob := .deferred (some []))
            obtain ⟨Y, y1, y2, y3, y4, y5, y6⟩ := lay _ _ w.heap.size z1 rfl z2
            refine ⟨w.heap.size + 1, [markD w.heap.size], _, Y, 0, run_enterLoop_outer fn a.tmps ps' as bd, z1.trans y1, y2, by simpa using y3, y4, ?_, ?_, ?_⟩
            · obtain ⟨rs, hd1, hd2, hd3⟩ := hr
              have hnew : X.F w.heap.size = none := h.rel.noF
              rw [hsrd]
              refine ⟨w.heap.size :: rs, by rw [hd1]; rfl, List.nodup_cons.2 ⟨fun hm => ?_, hd2⟩, fun r hr' => ?_⟩
              · rw [(hd3 _ hm).1] at hnew; cases hnew
              · rcases List.mem_cons.1 hr' with rfl | hr'
                · refine ⟨by rw [y5]; simp, ?_, h.rel.size⟩
                  cases hDw : D w.heap.size with
                  | none => rfl
                  | some o => rw [hD _ _ hDw] at hnew; cases hnew
                · exact ⟨(z1.trans y1).F _ _ (hd3 r hr').1, (hd3 r hr').2⟩
            · rw [y5]; simpa using y6
            · have := h.rel.size; omega
          · -- a loop within a round
            rename_i id0 g0 b0 hsrd
            obtain ⟨hy0, hd0⟩ := hr
            have hrec : ∃ r0, w.heap[b0]? = some (.loop r0) := by
              unfold rdOK at hrd
              rw [hsrd] at hrd
              simp only at hrd
              split at hrd
              · rename_i hg0
                obtain ⟨n0, m0, hm0⟩ := Zpc h.rel hy0 (Zco.1 hg0)
                obtain ⟨r0, _, hb0, _⟩ := (h.rel.obj _ _ _ (Zco.1 hg0)).2.loopR hm0
                exact ⟨r0, hb0⟩
              · cases hrd
            obtain ⟨r0, hb0⟩ := hrec
            obtain ⟨Y, y1, y2, y3, y4, y5, y6⟩ := lay X w r0.defers (Cx.le.refl X) rfl h.rel
            refine ⟨w.heap.size, [], _, Y, 0, run_enterLoop_inner hb0 fn a.tmps ps' as bd, y1, y2, y3, y4, ?_, by rw [y5]; exact y6, h.rel.size⟩
            rw [hsrd]
            exact ⟨hy0.weak y1, by simpa using hd0⟩
          · exact hr.elim
        refine wpIn_rangeFunc fun fnid _ => ?_
        obtain ⟨lp, mark, w1, Y, _, hen, hXY, hrelY, hyl, hissY, hrdY, hFlp, hlpB⟩ := enter fnid
        have hgv' : (#[Value.func (.yield lp) #[] #[]] : Array Value) = (#[Operand.const (.func (.yield lp) #[] #[])] : Array Operand).map a.eval := by simp [Act.eval]
        refine ⟨lp, mark, w1, { target := .fn (.func (fm k)) cs, args := fs ++ #[Value.func (.yield lp) #[] #[]] }, w1, fm k, fs ++ #[Value.func (.yield lp) #[] #[]] ++ cs, w1, hen, ?_, fun f' _ => Zqm l f', ?_, fun hd => (by rw [Zkn] at hd; cases hd), ?_⟩
        · simp only [resolve, rangeCall, hgv, Deferred.ofValue, h.fm]
          rw [← hgv']
          rfl
        · simp only [invoke]
          exact Zjy hP hfn _
        · have hall : RL Y (fst ++ [.yld s.H.length s.γ] ++ caps) (fs ++ #[Value.func (.yield lp) #[] #[]] ++ cs).toList := by
            simp only [Array.toList_append]
            refine RL.append (RL.append (RL.weak ⟨by simpa using hfs, fun i v x hv hx => q1 i v x hv (by simpa using hx)⟩ hXY) ⟨rfl, fun i v x hv hx => ?_⟩) (RL.weak ⟨by simpa using hcs, fun i v x hv hx => q2 i v x hv (by simpa using hx)⟩ hXY)
            cases i with
            | zero => simp at hv hx; subst hv hx; exact hyl
            | succ i => simp at hv
          refine (Zlc hP hE hcall hrelY (by rw [hXY.fm]; exact h.fm) hall (fun i k' hk' => ?_) l (m - 1)).mono fun e w3 hr => ?_
          · rcases hissY i k' hk' with hk' | rfl
            · have := h.iss i k' hk'; omega
            · omega
          · obtain ⟨hγ, x, Z, rfl, z1, z2, z3, z4, z5⟩ := hr
            have ho := Zco.1 hget
            obtain ⟨n3, m3, hm3⟩ := Zpc z2 (hyl.weak z1) ho
            obtain ⟨r3, hF3, hb3, _, _, _, _, hs3, hp3⟩ := (z2.obj _ _ _ ho).2.loopR hm3
            have hnb : r3.state ≠ .busy := by rw [hs3]; cases st <;> simp [stOf] at hst ⊢
            refine ⟨r3.pending, _, run_endLoop hb3 hnb, ?_⟩
            -- the record is dropped
            have drop : ∀ H3 : Heap, (∀ (id g : Nat) (o : O), H3[id]? = some (some (g, o)) → H2[id]? = some (some (g, o))) → H3[s.H.length]? = some none ∨ H3.length ≤ s.H.length → ∃ Z', Z.le Z' ∧ Z'.iss = Z.iss ∧ Rel (CC P fm) B Z' H3 (w3.putObj lp (.loop { r3 with state := .exhausted })) := by
              intro H3 hsub hgone
              obtain ⟨f1, f2⟩ := z2.fewer hsub
              refine ⟨_, f1, rfl, f2.dead hF3 (z2.own _ _ _ _ _ _ ho hm3 hF3) fun id g o n' m' hi hm' => ?_⟩
              have := z2.inj id s.H.length g s.γ o _ lp n' m' n3 m3 (hsub id g o hi) ho hm' hm3 hF3
              subst this
              rcases hgone with hg' | hg'
              · rw [hg'] at hi; cases hi
              · have := (List.getElem?_eq_some_iff.1 hi).1; omega
            have stR : ∀ H3 : Heap, (∀ (id g : Nat) (o : O), H3[id]? = some (some (g, o)) → H2[id]? = some (some (g, o))) → H3[s.H.length]? = some none ∨ H3.length ≤ s.H.length →
                ∃ Z', X.le Z' ∧ (∀ i k, Z'.iss i k → X.iss i k ∨ s.γ ≤ k) ∧ StR P fm B D Z' ⟨s.env, H3, γ2, s.rd⟩ (w3.putObj lp (.loop { r3 with state := .exhausted })) { a with defers := mark ++ a.defers } l := by
              intro H3 h1 h2
              obtain ⟨Z', u1, u2, u3⟩ := drop H3 h1 h2
              have hle : X.le Z' := hXY.trans (z1.trans u1)
              refine ⟨Z', hle, fun i k' hk' => ?_, u3, by rw [hle.fm]; exact h.fm, h.env.weak hle, fun i k' hk' => z4 i k' (by rw [← u2]; exact hk'), hrdY.weak (z1.trans u1), fun b o hb => hle.F _ _ (hD b o hb)⟩
              rw [u2] at hk'
              rcases z5 i k' hk' with hk' | hk'
              · rcases hissY i k' hk' with hk' | rfl
                · exact .inl hk'
                · exact .inr (Nat.le_refl _)
              · right; omega
            have heap3 : ∀ H3 : Heap, H3 = (if keep then H2.set s.H.length none else H2.take s.H.length) → (∀ (id g : Nat) (o : O), H3[id]? = some (some (g, o)) → H2[id]? = some (some (g, o))) ∧ (H3[s.H.length]? = some none ∨ H3.length ≤ s.H.length) := by
              intro H3 e3
              subst e3
              cases keep with
              | true =>
                simp only [if_true]
                have hlt := (List.getElem?_eq_some_iff.1 ho).1
                refine ⟨fun id g o hi => ?_, .inl (by simp [hlt])⟩
                rw [List.getElem?_set] at hi
                by_cases hid : s.H.length = id
                · rw [if_pos hid] at hi
                  by_cases h2 : s.H.length < H2.length
                  · rw [if_pos h2] at hi; cases hi
                  · rw [if_neg h2] at hi; cases hi
                · rw [if_neg hid] at hi
                  exact hi
              | false =>
                simp only [Bool.false_eq_true, if_false]
                refine ⟨fun id g o hi => ?_, .inr (by simp; omega)⟩
                rw [List.getElem?_take] at hi
                split at hi
                · exact hi
                · cases hi
            obtain ⟨k3, k4⟩ := heap3 _ rfl
            obtain ⟨Z', u1, u2, u3⟩ := stR _ k3 k4
            have hγ' : s.γ ≤ γ2 := by omega
            cases pend with
            | none =>
              have he' : some (Ex.normal, (⟨s.env, if keep then H2.set s.H.length none else H2.take s.H.length, γ2, s.rd⟩ : St)) = some (ex, s') := by
                cases st <;> first | exact he | exact absurd rfl hst
              simp only [Option.some.injEq, Prod.mk.injEq] at he'
              obtain ⟨rfl, rfl⟩ := he'
              simp [Zlb] at hp3
              split
              · exact ⟨trivial, rfl, hγ', Z', u1, u2, u3⟩
              · rename_i hh; rw [← hp3] at hh; cases hh
            | some c =>
              have he' : E c ⟨s.env, if keep then H2.set s.H.length none else H2.take s.H.length, γ2, s.rd⟩ = some (ex, s') := by
                cases st <;> first | exact he | exact absurd rfl hst
              have hcc : ∃ cc, r3.pending = some cc ∧ chkC P fm c cc = true := by
                cases c <;> simp [Zlb] at hp3 <;> exact ⟨_, hp3.symm, by simp [chkC]⟩
              obtain ⟨cc, hc1, hc2⟩ := hcc
              split
              · rename_i hh; rw [hc1] at hh; cases hh
              rename_i c' hh
              rw [hc1] at hh
              injection hh with hh
              subst hh
              exact wpIn_mono (hE _ _ _ _ _ he' hc2 B D Z' _ _ l m u3) fun e a' w' hq => Zhn.trans (s1 := ⟨s.env, if keep then H2.set s.H.length none else H2.take s.H.length, γ2, s.rd⟩) rfl hγ' u1 u2 hq
      · cases he
    · cases he
  · cases he

theorem exR_self (ex : Ex) : ∃ e, exR ex e := by cases ex; exact ⟨.normal, trivial⟩; exact ⟨.exit _, rfl⟩; exact ⟨.ret, trivial⟩

set_option maxHeartbeats 1000000 in
theorem Zuq (hP : PR P fm AP) (n : Nat) (ih : ∀ k, k ≤ n → Zfa P fm (exec AP k)) : Zfa P fm (step AP (exec AP n)) := by
  intro c code s s' ex he hc B D X w a l m h
  have hE : Zfa P fm (exec AP n) := ih n (Nat.le_refl _)
  cases c with
  | skip =>
    simp only [step, Option.some.injEq, Prod.mk.injEq] at he
    obtain ⟨rfl, rfl⟩ := he
    cases code <;> simp [chkC] at hc
    · exact wpIn_skip (Zhn.same h trivial)
    · exact wpIn_label (Zhn.same h trivial)
  | exit id =>
    simp only [step, Option.some.injEq, Prod.mk.injEq] at he
    obtain ⟨rfl, rfl⟩ := he
    cases code <;> simp [chkC] at hc
    subst hc
    exact wpIn_exit (Zhn.same h rfl)
  | ret =>
    simp only [step, Option.some.injEq, Prod.mk.injEq] at he
    obtain ⟨rfl, rfl⟩ := he
    cases code <;> simp [chkC] at hc
    exact wpIn_ret (Zhn.same h trivial)
  | inl b c => cases code <;> simp [chkC] at hc
  | reg tot rs =>
    cases code <;> simp [chkC] at hc
    rename_i id ops dr
    obtain ⟨hdr, hc⟩ := hc
    have hdr' : dr = false := by simpa using hdr
    subst hdr'
    simp only [step] at he
    split at he
    · rename_i s1 hr
      simp only [Option.some.injEq, Prod.mk.injEq] at he
      obtain ⟨rfl, rfl⟩ := he
      obtain ⟨r1, r2⟩ := h.rel.room tot
      refine wpIn_region ?_
      have hrd := Zin hr
      have key := Zqa (ops := ops) (Q := Zhn P fm B D X s s1 l .normal) hP hE l m rs ops.toList 0 0 _ s1 { X with lv := lvH (s.H ++ List.replicate tot none) } w a (fun i o ho => by simpa using ho) hr hc r2 h.fm (h.env.weak r1)
        (fun i k hk => by have : k < s.γ := h.iss i k hk; show k < s.γ + tot; omega) (Nat.le_refl _) (fun i k hk => .inl (by have : k < s.γ := h.iss i k hk; omega))
        (fun Y a' w' y1 y2 y3 y4 y5 y6 y7 => ⟨trivial, hrd, by have : s.γ + tot ≤ s1.γ := y6; omega, Y, r1.trans y1, fun i k hk => by
          rcases y5 i k hk with hk | hk
          · exact .inl hk
          · right; omega, y2, by rw [(r1.trans y1).fm]; exact h.fm, y3, y4, by rw [hrd, y7]; exact h.rd.weak (r1.trans y1), fun b o hb => (r1.trans y1).F _ _ (h.d b o hb)⟩)
      rw [List.range_eq_range']
      simpa using key
    · cases he
  | regd dep tot rs =>
    cases code <;> simp [chkC] at hc
    rename_i id ops dr
    obtain ⟨⟨hdr, hc⟩, hdb⟩ := hc
    have hdr' : dr = true := by simpa using hdr
    subst hdr'
    simp only [step] at he
    split at he
    · rename_i e1 H1 hr
      simp only [Option.some.injEq, Prod.mk.injEq] at he
      obtain ⟨rfl, rfl⟩ := he
      obtain ⟨r1, r2⟩ := h.rel.room tot
      refine Zuo (id := id) hP hE l m hc hdb hr r2 h.fm (h.env.weak r1) h.iss fun Y a' w' y1 y2 y3 y4 y5 => ⟨trivial, rfl, Nat.le_add_right _ _, Y, r1.trans y1, fun i k hk => by
          rcases y5 i k hk with hk | hk
          · exact .inl hk
          · right; omega, y2, by rw [(r1.trans y1).fm]; exact h.fm, y3, fun i k hk => ?_, by rw [y4]; exact h.rd.weak (r1.trans y1), fun b o hb => (r1.trans y1).F _ _ (h.d b o hb)⟩
      rcases y5 i k hk with hk | hk
      · have : k < s.γ := h.iss i k hk
        show k < s.γ + tot
        omega
      · exact hk.2
    · cases he
  | seq c1 c2 =>
    cases code <;> simp [chkC] at hc
    rename_i d1 d2
    simp only [step] at he
    refine wpIn_seq ?_
    split at he
    · rename_i s1 h1
      refine wpIn_mono (hE _ _ _ _ _ h1 hc.1 B D X w a l m h) fun e a' w' hp => ?_
      obtain ⟨hx, hrd, hγ, Y, hle, hn, hst⟩ := hp
      cases e <;> simp [exR] at hx
      exact wpIn_mono (hE _ _ _ _ _ he hc.2 B D Y w' a' l m hst) fun e2 a2 w2 hp2 => Zhn.trans hrd hγ hle hn hp2
    · rename_i hnn
      refine wpIn_mono (hE _ _ _ _ _ he hc.1 B D X w a l m h) fun e a' w' hp => ?_
      have hx := hp.1
      have hne : ex ≠ .normal := fun hh => hnn s' (by rw [he, hh])
      cases ex <;> cases e <;> simp [exR] at hx
      · exact absurd rfl hne
      · subst hx; exact hp
      · exact hp
  | cond x c1 c2 =>
    cases code <;> simp [chkC] at hc
    rename_i y d1 d2
    obtain ⟨⟨hx, hc1⟩, hc2⟩ := hc
    have hv : RV X (Zbz s.env x) (a.eval y) := Zsl h.env h.fm hx
    simp only [step] at he
    split at he
    · rename_i hb
      rw [hb] at hv
      generalize hy : a.eval y = yv at hv
      cases hv
      exact wpIn_cond_true hy (hE _ _ _ _ _ he hc1 B D X w a l m h)
    · rename_i hb
      rw [hb] at hv
      generalize hy : a.eval y = yv at hv
      cases hv
      exact wpIn_cond_false hy (hE _ _ _ _ _ he hc2 B D X w a l m h)
    · cases he
  | block id c1 =>
    cases code <;> simp [chkC] at hc
    rename_i id' d1
    obtain ⟨rfl, hc⟩ := hc
    simp only [step] at he
    refine wpIn_block ?_
    split at he
    · rename_i i s1 h1
      refine wpIn_mono (hE _ _ _ _ _ h1 hc B D X w a l m h) fun e a' w' hp => ?_
      obtain ⟨hx, hp⟩ := hp
      cases e <;> simp [exR] at hx
      subst hx
      split at he
      · rename_i hid
        simp only [Option.some.injEq, Prod.mk.injEq] at he
        obtain ⟨rfl, rfl⟩ := he
        simp only [Exit.inBlock, hid, if_true]
        exact ⟨trivial, hp⟩
      · rename_i hid
        simp only [Option.some.injEq, Prod.mk.injEq] at he
        obtain ⟨rfl, rfl⟩ := he
        simp only [Exit.inBlock, hid, if_false]
        exact ⟨rfl, hp⟩
    · rename_i hnn
      refine wpIn_mono (hE _ _ _ _ _ he hc B D X w a l m h) fun e a' w' hp => ?_
      have hx := hp.1
      have hne : ∀ i, ex ≠ .exit i := fun i hh => hnn i s' (by rw [he, hh])
      cases ex <;> cases e <;> simp [exR] at hx
      · exact hp
      · exact absurd rfl (hne _)
      · exact hp
  | loop keep c1 =>
    cases code <;> simp [chkC] at hc
    rename_i d1
    simp only [step] at he
    refine Zpp (fun k a' w' => k ≤ n ∧ ∃ (s1 : St) (Y : Cx), exec AP k (.inl (if keep then none else some s.H.length) c1) s1 = some (ex, s') ∧ s1.rd = s.rd ∧ s.γ ≤ s1.γ ∧ X.le Y ∧ (∀ i k, Y.iss i k → X.iss i k ∨ s.γ ≤ k) ∧ StR P fm B D Y s1 w' a' l) n
      ⟨Nat.le_refl _, s, X, he, rfl, Nat.le_refl _, Cx.le.refl X, fun _ _ hk => .inl hk, h⟩ fun k a' w' hR => ?_
    obtain ⟨hkn, s1, Y, hex, hrd, hγ, hle, hn, hst⟩ := hR
    cases k with
    | zero => simp [exec] at hex
    | succ k =>
      simp only [exec, step] at hex
      have hEk : Zfa P fm (exec AP k) := ih k (by omega)
      -- the heap at the round's head
      have head : ∃ (s2 : St) (Z : Cx), s2 = Zpd (if keep then none else some s.H.length) s1 ∧ s2.rd = s1.rd ∧ s2.γ = s1.γ ∧ Y.le Z ∧ Z.iss = Y.iss ∧ StR P fm B D Z s2 w' a' l := by
        cases keep with
        | true => exact ⟨s1, Y, rfl, rfl, rfl, Cx.le.refl Y, rfl, hst⟩
        | false =>
          obtain ⟨Z, z1, z2, z3⟩ := hst.take s.H.length
          exact ⟨_, Z, rfl, rfl, rfl, z1, z2, z3⟩
      obtain ⟨s2, Z, hs2, hrd2, hγ2, z1, z2, z3⟩ := head
      rw [← hs2] at hex
      have hnZ : ∀ i k, Z.iss i k → X.iss i k ∨ s.γ ≤ k := fun i k hk => hn i k (by rw [← z2]; exact hk)
      split at hex
      · rename_i s3 h3
        refine wpIn_mono (hEk _ _ _ _ _ h3 hc B D Z w' a' l m z3) fun e a2 w2 hp => ?_
        obtain ⟨hx, p1, p2, U, p3, p4, p5⟩ := hp
        cases e <;> simp [exR] at hx
        refine ⟨k, Nat.lt_succ_self k, by omega, s3, U, hex, by rw [p1, hrd2, hrd], by omega, (hle.trans z1).trans p3, fun i q hq => ?_, p5⟩
        rcases p4 i q hq with hq | hq
        · exact hnZ i q hq
        · right; omega
      · rename_i hnn
        refine wpIn_mono (hEk _ _ _ _ _ hex hc B D Z w' a' l m z3) fun e a2 w2 hp => ?_
        have hx := hp.1
        have hne : ex ≠ .normal := fun hh => hnn s' (by rw [hex, hh])
        have hp' : Zhn P fm B D X s s' l ex e a2 w2 := Zhn.trans (s1 := s2) (by rw [hrd2, hrd]) (by omega) (hle.trans z1) hnZ hp
        cases ex <;> cases e <;> simp [exR] at hx
        · exact absurd rfl hne
        · exact hp'
        · exact hp'
  | rngf keep f ps asg body =>
    cases code <;> simp [chkC] at hc
    rename_i g ps' as bd
    obtain ⟨⟨⟨hg, hps⟩, ha⟩, hb⟩ := hc
    exact Zuj hP hE he hg hps ha hb h

/-- **The abstract machine is sound.** -/
theorem Zmi (hP : PR P fm AP) : ∀ n, Zfa P fm (exec AP n) := by
  intro n
  induction n using Nat.strongRecOn with
  | _ n ih =>
    cases n with
    | zero => intro c code s s' ex he; simp [exec] at he
    | succ n => exact Zuq hP n fun k hk => ih k (by omega)
end Go.AM
