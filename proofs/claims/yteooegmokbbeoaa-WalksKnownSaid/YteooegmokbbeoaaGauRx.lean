/- What joins the abstract machine's answer to a row. -/
import Derived.Test.YteooegmokbbeoaaRows
import Derived.ProofKit
import Derived.Test.YteooegmokbbeoaaGauPr06
import Derived.Test.YteooegmokbbeoaaGauBh
import Derived.Test.YteooegmokbbeoaaGauFa
set_option linter.unusedVariables false
set_option linter.unusedSimpArgs false
set_option maxRecDepth 100000
namespace Go.AM
open Go Go.Proofs Go.ChangeShapes Go.WideShapes Go.ChangeAt Go.RowKit
/-- A call that the abstract machine answers, in the model. -/
theorem Ybr {f : Nat} {args : List V} {v : V} (h : Zaq AP (X AP) false f args = some (v, none)) {W : World} {xs : Array Value} (ha : RL (bare fmS fun b => W.heap[b]?) args xs.toList) :
    Calls Try.prog (fmS f) xs W fun e W' => ∃ x, e = .returned x ∧ IsoP fmS W (fun b => W.heap[b]?) (v, none) x W' := by
  obtain ⟨n, hn⟩ := Zje h
  have := Zkt (w := W) (F0 := fun b => W.heap[b]?) prS (Zmi prS n) hn (fun b o hb => hb) ha none 0
  exact callsIn_wide.1 this
theorem Yhl {W W' : World} (h : Zox W W') : Below W.heap.size W W' := ⟨h.2.2.1, h.2.2.2.1, h.2.2.2.2, h.2.1, h.1⟩
theorem Zua {W W' : World} (h : Zox W W') (may : MemPlace → Prop) : W.keptBut W' may := by
  refine ⟨h.2.2.1, h.2.2.2.2, fun i hi => ?_⟩
  have := h.1 i hi
  rw [this]
  cases W.heap[i]? with
  | none => rfl
  | some o => cases o <;> simp
theorem Ycp {W W' : World} (h : Zox W W') {a : Addr} (ha : a.block < W.heap.size) : W'.frozen? a = W.frozen? a := by
  unfold World.frozen?
  rw [h.1 a.block ha]
/-- What stands behind a call that only made new blocks. -/
theorem Zux {H : Type} {enc : TypeId × Value → H} {P : Program} {f : Func} {s : ChangeSpec} {apart fresh handsOn : Bool} {W W' : World} {args : Array Value} {v : Value} {ds : List (DataW H)} {before : List MemPlace}
    (hv : s.vars = []) (hm : Zox W W') (hW : DataW.Whole enc P f.params.toList s.vars apart W args.toList ds [] before)
    (hres : ∀ (b : Nat) (sp : Nat → Bool) (hd : Bool), DataW.TrodAll enc P W' b sp hd f.resultTypes.toList (v.resultList f.resultTypes.size) (s.fn H (ds ++ [])).results [])
    (hargs : DataW.TrodAll enc P W' 0 (fun b => decide (b < W.heap.size)) true f.params.toList args.toList (s.fn H (ds ++ [])).args before)
    (hvars : (s.fn H (ds ++ [])).vars = []) :
    s.post enc P f apart fresh handsOn false W args v W' := by
  have hV : ∀ sp : Nat → Bool, DataW.TrodVars enc P W' sp s.vars (s.fn H (ds ++ [])).vars [] := fun sp => by
    rw [hv, hvars]; simp [DataW.TrodVars]
  exact ⟨ds, [], before, [], before, [], hW, hres _ _ _, hargs, hV _, Zua hm _, fun h => by cases h⟩
/-- The answer 'true'. -/
theorem Ybd {W W' : World} {F0 : Nat → Option Obj} {x : Value} (h : IsoP fmS W F0 (.bool true, none) x W') : Zox W W' ∧ x = .bool true := by
  obtain ⟨G, hm, _, _, hx⟩ := h
  cases hx
  exact ⟨hm, rfl⟩
theorem flatN (k : IntKind) (l : List Nat) : l.flatMap (fN k) = l.map fun (n : Nat) => V.int k (n : Int) := by
  induction l with
  | nil => rfl
  | cons a t ih => simp only [List.flatMap_cons, List.map_cons, ih]; rfl
theorem Zui {W : World} {a : Addr} {i : Nat} {v : Value} (hs : a.spot = none) (h : W.cell? (a.add i) = some v) : Zjq (fun b => W.heap[b]?) a.block (a.off + i) = some v := by
  have hb : (a.add i).block = a.block := by unfold Addr.add; split <;> rfl
  have ho : (a.add i).off = a.off + i := by unfold Addr.add; split <;> simp_all
  have hp : (a.add i).spot = none := by unfold Addr.add; split <;> simp_all
  unfold World.cell? at h
  unfold Zjq
  rw [hb, ho, hp] at h
  split at h
  · rename_i c t f hc
    simp only [hc]
    simpa using h
  · cases h
/-- A slice of small numbers that was handed in. -/
theorem Yeb {W : World} {k : IntKind} {a : Addr} {len cap : Nat} {zs : List Int} (hs : a.spot = none) (hl : len ≤ zs.length) (hlc : len ≤ cap) (hc : ∀ i, i < zs.length → W.cell? (a.add i) = some (.int k (zs.getD i 0))) (hz : ∀ n ∈ zs, 0 ≤ n) :
    RV (bare fmS fun b => W.heap[b]?) (enS (fN k) 1 ((zs.take len).map Int.toNat) (.c none)) (.slice (some a) len cap) := by
  have hlen : ((zs.take len).map Int.toNat).length = len := by simp; omega
  have hget : ∀ (i : Nat) (v : V), (((zs.take len).map Int.toNat).flatMap (fN k))[i]? = some v → i < zs.length ∧ v = .int k (zs.getD i 0) := by
    intro i v h
    rw [flatN, List.getElem?_map] at h
    cases hx : ((zs.take len).map Int.toNat)[i]? with
    | none => rw [hx] at h; cases h
    | some n =>
      rw [hx] at h
      simp only [Option.map_some, Option.some.injEq] at h
      rw [List.getElem?_map] at hx
      cases hy : (zs.take len)[i]? with
      | none => rw [hy] at hx; cases hx
      | some z =>
        rw [hy] at hx
        simp only [Option.map_some, Option.some.injEq] at hx
        rw [List.getElem?_take] at hy
        split at hy
        · obtain ⟨hi, rfl⟩ := List.getElem?_eq_some_iff.mp hy
          have := hz _ (List.getElem_mem hi)
          refine ⟨hi, ?_⟩
          rw [← h, ← hx, List.getD_eq_getElem?_getD, List.getElem?_eq_getElem hi]
          simp only [Option.getD_some]
          rw [Int.toNat_of_nonneg this]
        · cases hy
  have ha : (some a : Option Addr) = some ⟨a.block, a.off, none⟩ := by
    obtain ⟨x, y, z⟩ := a
    simp only at hs
    rw [hs]
  unfold enS
  rw [ha]
  rw [show Value.slice (some ⟨a.block, a.off, none⟩) len cap = Value.slice (some ⟨a.block, a.off, none⟩) ((zs.take len).map Int.toNat).length cap by rw [hlen]]
  refine .arr _ 1 _ none a.block a.off cap (fun i => .int k (zs.getD i 0)) (by decide) ?_ ?_ ?_ (by rw [hlen]; exact hlc) ?_ ?_
  · exact Zdd (f := fN k) _
  · rw [Zbn (f := fN k)]
  · intro c h; cases h
  · intro i v hv
    obtain ⟨h1, rfl⟩ := hget i v hv
    exact ⟨Zui hs (hc i h1), rfl⟩
  · intro i v hv
    obtain ⟨h1, rfl⟩ := hget i v hv
    exact .int k _
theorem wf_u {n : Int} (h : (Lit.int .u8 n).wf = true) : ∃ m : Nat, n = m ∧ m < 256 := by
  simp only [Lit.wf, Bool.and_eq_true, decide_eq_true_eq] at h
  have h1 : (0 : Int) ≤ n := h.1
  have h2 : n ≤ 255 := h.2
  exact ⟨n.toNat, by omega, by omega⟩
theorem Ycm {n : Int} (h : (Lit.int .u16 n).wf = true) : 0 ≤ n ∧ n < 65536 := by
  simp only [Lit.wf, Bool.and_eq_true, decide_eq_true_eq] at h
  have h1 : (0 : Int) ≤ n := h.1
  have h2 : n ≤ 65535 := h.2
  omega
theorem Zkx {X : Cx} {v : V} {x : Value} {vs : List V} {xs : List Value} (h : RV X v x) (hs : RL X vs xs) : RL X (v :: vs) (x :: xs) := by
  refine ⟨by simp [hs.1], fun i a b ha hb => ?_⟩
  cases i with
  | zero => simp only [List.getElem?_cons_zero, Option.some.injEq] at ha hb; subst ha; subst hb; exact h
  | succ i => simp only [List.getElem?_cons_succ] at ha hb; exact hs.2 i a b ha hb
theorem Ycy {X : Cx} : RL X [] [] := ⟨rfl, fun i a b ha => by simp at ha⟩
/-- A machine of numbers that was handed in. -/
theorem open_M {H : Type} {enc : TypeId × Value → H} {W : World} {base : Nat} {sp : Nat → Bool} {hd : Bool} {v : Value} {d : DataW H} {p : List MemPlace} (hsp : sp = fun _ => true)
    (hv : Value.okWide Try.prog W .any base 24 v) (h : DataW.Trod enc Try.prog W 0 sp hd 24 v d p) :
    ∃ (S I O : Nat) (q : Bool) (es : List Nat) (ke : SC), S < 256 ∧ I < 256 ∧ O < 256 ∧ (∀ i, es.getD i 0 < 65536) ∧ RV (bare fmS fun b => W.heap[b]?) (.agg [.int .u8 S, .int .u8 I, .int .u8 O, .bool q, enS (fN .u16) 1 es ke]) v := by
  subst hsp
  obtain ⟨cs, rfl, hsz⟩ := okWide_struct Try.underlying24 hv
  have hC : Try.prog.cellsOf 24 = 5 := by kernel_rfl
  have hC5 : Try.prog.cellsOf 5 = 1 := by kernel_rfl
  have hC4 : Try.prog.cellsOf 4 = 1 := by kernel_rfl
  have hC22 : Try.prog.cellsOf 22 = 1 := by kernel_rfl
  rw [hC] at hsz
  obtain ⟨fuel, hf⟩ := h
  obtain ⟨xs, n, rfl, _, hl, hxl, hx⟩ := DataW.trod_struct Try.underlying24 hf
  obtain ⟨l⟩ := cs
  simp only [List.size_toArray] at hsz
  obtain ⟨c0, c1, c2, c3, c4, rfl⟩ : ∃ c0 c1 c2 c3 c4, l = [c0, c1, c2, c3, c4] := by
    match l, hsz with
    | [c0, c1, c2, c3, c4], _ => exact ⟨c0, c1, c2, c3, c4, rfl⟩
  have h0 := hx 0 { name := "States", type := 5, offset := 0, embedded := false, tag := "", pkgPath := "", byteOffset := 0 } rfl
  have h1 := hx 1 { name := "Inputs", type := 5, offset := 1, embedded := false, tag := "", pkgPath := "", byteOffset := 1 } rfl
  have h2 := hx 2 { name := "Outputs", type := 5, offset := 2, embedded := false, tag := "", pkgPath := "", byteOffset := 2 } rfl
  have h3 := hx 3 { name := "Partial", type := 4, offset := 3, embedded := false, tag := "", pkgPath := "", byteOffset := 3 } rfl
  have h4 := hx 4 { name := "Edges", type := 22, offset := 4, embedded := false, tag := "", pkgPath := "", byteOffset := 8 } rfl
  simp only [Value.cells, hC5, hC4, hC22, List.drop_zero, List.drop_succ_cons, List.take_succ_cons, List.take_zero] at h0 h1 h2 h3 h4
  have hx5 : xs.length = 5 := hxl
  have g0 : ∃ y, xs[0]? = some y := ⟨_, List.getElem?_eq_getElem (by omega)⟩
  have g1 : ∃ y, xs[1]? = some y := ⟨_, List.getElem?_eq_getElem (by omega)⟩
  have g2 : ∃ y, xs[2]? = some y := ⟨_, List.getElem?_eq_getElem (by omega)⟩
  have g3 : ∃ y, xs[3]? = some y := ⟨_, List.getElem?_eq_getElem (by omega)⟩
  have g4 : ∃ y, xs[4]? = some y := ⟨_, List.getElem?_eq_getElem (by omega)⟩
  obtain ⟨y0, g0⟩ := g0
  obtain ⟨y1, g1⟩ := g1
  obtain ⟨y2, g2⟩ := g2
  obtain ⟨y3, g3⟩ := g3
  obtain ⟨y4, g4⟩ := g4
  rw [g0] at h0; rw [g1] at h1; rw [g2] at h2; rw [g3] at h3; rw [g4] at h4
  obtain ⟨n0, e0, _, w0⟩ := DataW.trod_int Try.underlying5 h0
  obtain ⟨n1, e1, _, w1⟩ := DataW.trod_int Try.underlying5 h1
  obtain ⟨n2, e2, _, w2⟩ := DataW.trod_int Try.underlying5 h2
  obtain ⟨q, e3, _⟩ := DataW.trod_bool Try.underlying4 h3
  simp only [List.cons.injEq, and_true] at e0 e1 e2 e3
  obtain ⟨S, rfl, hS⟩ := wf_u w0
  obtain ⟨I, rfl, hI⟩ := wf_u w1
  obtain ⟨O, rfl, hO⟩ := wf_u w2
  subst e0; subst e1; subst e2; subst e3
  have key : ∃ (es : List Nat) (ke : SC), (∀ i, es.getD i 0 < 65536) ∧ RV (bare fmS fun b => W.heap[b]?) (enS (fN .u16) 1 es ke) c4 := by
    have hC74 : Try.prog.cellsOf 74 = 1 := by kernel_rfl
    rcases open_ints Try.underlying22 Try.underlying74 hC74 h4 with ⟨e4, _⟩ | ⟨a, len, cap, zs, e4, _, hlc, _, hzl, _, hcell, hwf⟩
    · simp only [List.cons.injEq, and_true] at e4
      subst e4
      exact ⟨[], .n, by simp, .nils⟩
    · simp only [List.cons.injEq, and_true] at e4
      subst e4
      simp only [if_true] at hzl
      have hspot : a.spot = none := by
        have hts : Try.prog.cellTypes Try.prog.depth 24 = some [5, 5, 5, 4, 22] := by kernel_rfl
        unfold Value.okWide at hv
        rw [Try.underlying24] at hv
        obtain ⟨cs', ecs, _, ts, hts', _, hall⟩ := hv
        rw [hts] at hts'
        simp only [Option.some.injEq] at hts'
        subst hts'
        obtain ⟨u, hu, hok⟩ := hall 4 (.slice (some a) len cap) (by
          simp only [Value.agg.injEq] at ecs
          rw [← ecs]; rfl)
        have hu' : u = 22 := by simpa using hu.symm
        subst hu'
        unfold Cell.okWide at hok
        rw [Try.underlying22] at hok
        simp only at hok
        unfold Cell.ok at hok
        rw [Try.underlying22] at hok
        exact hok.2.2.2.1
      refine ⟨_, _, ?_, Yeb hspot (by omega) hlc hcell (fun n hn => (Ycm (hwf n hn)).1)⟩
      intro i
      rw [List.getD_eq_getElem?_getD, List.getElem?_map]
      cases hx' : (zs.take len)[i]? with
      | none => simp
      | some z =>
        have hm := List.mem_of_getElem? hx'
        have := Ycm (hwf z (List.mem_of_mem_take hm))
        simp only [Option.map_some, Option.getD_some]
        omega
  obtain ⟨es, ke, hes, hr⟩ := key
  refine ⟨S, I, O, q, es, ke, hS, hI, hO, hes, ?_⟩
  have hl := Zkx (RV.int (X := bare fmS fun b => W.heap[b]?) .u8 S) (Zkx (RV.int .u8 I) (Zkx (RV.int .u8 O) (Zkx (RV.bool q) (Zkx hr Ycy))))
  refine .agg _ _ hl.1 ?_ (fun i a b ha hb => hl.2 i a b ha (by simpa using hb))
  intro i a ha
  match i, ha with
  | 0, ha => simp at ha; subst ha; rfl
  | 1, ha => simp at ha; subst ha; rfl
  | 2, ha => simp at ha; subst ha; rfl
  | 3, ha => simp at ha; subst ha; rfl
  | 4, ha => simp at ha; subst ha; cases ke with
    | n => cases es <;> rfl
    | c o => rfl
  | i + 5, ha => simp at ha
theorem Yfb : ownKnob Try.prog.godebug = none := by kernel_rfl
theorem Ydy : laidOutB Try.prog = true := by kernel_rfl
end Go.AM
