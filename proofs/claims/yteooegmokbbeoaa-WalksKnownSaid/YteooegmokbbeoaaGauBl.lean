/- The equations by which code is stepped, gathered. -/
import Derived.Test.YteooegmokbbeoaaGauBh
import Derived.Attr
namespace Go.AM
attribute [go_sem] X_seq X_reg0 X_reg X_cond X_skip X_ret X_exit Yeu Ydj Yev X_stat X_dyn Zzx Ygy Ybl Yce List.headD_cons List.headD_nil
attribute [go_sem] List.tail_cons List.tail_nil Option.toList_some Option.toList_none Zpd Ydm Yaq Ybv Zzv Ych Zho Aop.opds List.map_cons List.map_nil
attribute [go_sem] Yff Ygs Zid Zmc Zmv Zxh Zxv Zaa Zab Zac Zgc Zul Zuc Ybj
attribute [go_sem] Zpw Zwk Ztz Zng Ztw Zqw Ztu Zrx Yau Zwh Yar Zrm Zzs Zrg
attribute [go_sem] Zzz Yad Zep Zvu o_mv o_pick o_fad o_fadF Ygh Ygb Yeo o_ext o_conv o_un Yhm Yfx o_add o_sub o_mul o_quo o_rem o_eql o_neq
attribute [go_sem] o_lss o_leq o_gtr o_geq o_eqb Ybk eqK_ii o_mx o_mn o_alen o_cap o_mkf o_fld Yfy o_slc o_slcL o_slcH Yha Ygg Ycb Zvv Zeb Zei
attribute [go_sem] Zas o_ldF o_ldP Zvz ldC_0 ldC_S ldC_2 ldC_3 ldC_4 ldC_5 o_box Yds o_st stR_ok Ydh o_lenN o_lenS o_iad o_iadS Zfv Zmq Zwc
attribute [go_sem] Zpa Ybe Zxk Zwp Zvg Zuw Zna Zbi Zax Zbe Zxj Zhc Zqb Ydl Zfg Ybt
attribute [go_sem] Zcf o_app1 o_appS Zyh Zzl o_bsl Zxe o_mks o_mvO Ybi o_stO Ygk Yeg Zuh bld Zez Zwd Zrh Zun
attribute [go_sem] Zpy Zty Zpn Zxx Zrn Ybs Zuf Zwn Zqz Zza Zra Yca Zup Yba
attribute [go_sem] Zva Zuk Zpk Zus Zpe Zve Zpm Zwr Zre Zze Zrc Zwy Zqs Zjh
attribute [go_sem] Zum Zru Ybp repl List.flatten_cons List.flatten_nil List.drop_zero List.drop_succ_cons List.drop_nil Option.bind_some List.getElem?_cons_zero
attribute [go_sem] List.getElem?_cons_succ Yco Zwl Ybg Zal Zar List.length_set Int.toNat_natCast Int.toNat_one Int.toNat_zero Int.natCast_zero
attribute [go_sem] Option.map_some Option.map_none List.length_cons List.length_nil List.length_append List.length_replicate List.replicate List.nil_append List.cons_append
attribute [go_sem] List.append_nil List.set_cons_zero List.set_cons_succ List.take_zero List.take_succ_cons List.take_nil Bool.and_true Bool.and_self and_self true_and and_true
attribute [go_sem] Bool.not_true Bool.not_false Bool.false_eq_true if_true if_false ite_true ite_false decide_true decide_false decide_eq_true decide_eq_false Zgf
attribute [go_sem] beq_self_eq_true beq_true beq_false Bool.false_and Bool.true_and Nat.add_zero Nat.zero_add Nat.le_refl
/-! ### Short forms -/
theorem dJ {p : Prop} (q : p := by first | assumption | decide | omega | (refine id ?_; simp only [go_sem, Zed, Zrt, Zrb, Zbm, Zbr, Nat.add_assoc, List.length_map, List.length_range, Nat.reduceAdd, *]; first | done | decide | omega)) : p := q
theorem dK {p : Prop} (q : p := by first | assumption | decide | omega | (refine id ?_; simp (disch := decide) only [Yel, okD_in, Yft, List.mem_cons, List.not_mem_nil, or_false, false_or, forall_eq, forall_eq_or_imp, false_implies, implies_true, not_false_eq_true, and_self, and_true, true_and, not_or]; first | done | omega) | (refine id ?_; simp only [go_sem, Zed, Zrt, Zrb, Zbm, Zbr, Nat.add_assoc, List.length_map, List.length_range, Nat.reduceAdd, *]; first | done | decide | omega)) : p := q
theorem dZ {p : Prop} (q : p := by first | assumption | decide | omega | (refine id ?_; simp only [go_sem, Zed, Zrt, Zrb, Zbm, Zbr, Nat.add_assoc, List.length_map, List.length_range, Nat.reduceAdd, Zft, Bool.false_and, Bool.and_false, Zha, Zdr, Zgw, Zfj, Zop, Zqf, Zde, Zca, Zhk, Zdx, Zfr, Zdg, Option.isSome_some, Zcs, Nat.reduceMul, Nat.reduceLT, Nat.reduceAdd, List.set_cons_zero, List.set_cons_succ, *]; first | done | decide | omega)) : p := q
theorem dG {p : Prop} (q : p := by first | decide | (simp only [Zac, *]; omega)) : p := q
theorem gQ {a p : Prop} (h : a) (q : a → p := by intro h; simp (disch := first | exact dG | fail) only [Zab, Zaa, Zac, h] <;> rfl) : p := q h
theorem gZ {a p : Prop} (h : a) (q : a → p := by intro h; simp (disch := first | exact dG | fail) only [Zab, Zaa, Zac, h, Int.natCast_zero]) : p := q h
end Go.AM

set_option linter.unusedVariables false
set_option linter.unusedSimpArgs false
namespace Go.AM
variable {P : Zce} {own : List (Nat × Nat)} {id g : Nat} {H : Heap}
noncomputable def ifDG (P : Zce) (b γ i : Nat) (dep : List (List Nat)) (d : Option Nat) (op : Aop) (t : Nat) (w : Bool) (k : Nat) (fz : Bool) (own : List (Nat × Nat)) (rs : List RS) (past : List (Nat × RS × (List Nat × List Nat))) (e : List V) (H : Heap) : Option Bool → Option (List V × Heap)
  | some true => Zgg P b γ i dep ⟨d, op, some (t, w), k, fz, own⟩ rs past e (if fz = true then frzR P own (b + k) (γ + k) op (op.opds.map (Zbz e)) H else opR P own (b + k) (γ + k) op (op.opds.map (Zbz e)) H)
  | some false => Zgg P b γ i dep ⟨d, op, some (t, w), k, fz, own⟩ rs past e (some (.tup [], H, [], []))
  | none => none
theorem Ycl (b γ i : Nat) (dep : List (List Nat)) (d : Option Nat) (op : Aop) (t : Nat) (w : Bool) (k : Nat) (fz : Bool) (own : List (Nat × Nat)) (rs : List RS) (past : List (Nat × RS × (List Nat × List Nat))) (e : List V) (H : Heap) (hr : Zho op = false) :
    RunD P b γ i dep (⟨d, op, some (t, w), k, fz, own⟩ :: rs) past e H = ifDG P b γ i dep d op t w k fz own rs past e H (Zep e (some (t, w))) := by
  unfold RunD
  rw [runD]
  simp only [Zda]
  cases hg : Zep e (some (t, w)) with
  | none => rfl
  | some q =>
    cases q with
    | false => rfl
    | true =>
      simp only [hr, Zdc, Bool.false_eq_true, if_false, ifDG]
      cases fz with
      | false =>
        simp only [Bool.false_eq_true, if_false]
        unfold opR Zgg
        cases runP (Zaz (Zaq P (X P)) own (b + k) (γ + k) op (op.opds.map (Zbz e))) H with
        | none => rfl
        | some q => rfl
      | true =>
        simp only [if_true]
        unfold frzR Zgg
        cases runP (Zbg true 9 (op.opds.map (Zbz e)) fun vals' => Zaz (Zaq P (X P)) own (b + k) (γ + k) op vals') H with
        | none => rfl
        | some q => rfl
theorem Zmz (b γ i : Nat) (dep : List (List Nat)) (d : Option Nat) (op : Aop) (t : Nat) (w : Bool) (k : Nat) (fz : Bool) (own : List (Nat × Nat)) (rs : List RS) (past : List (Nat × RS × (List Nat × List Nat))) (e : List V) (H : Heap) :
    ifDG P b γ i dep d op t w k fz own rs past e H (some false) = Zgg P b γ i dep ⟨d, op, some (t, w), k, fz, own⟩ rs past e (some (.tup [], H, [], [])) := rfl
theorem Zyo (b γ i : Nat) (dep : List (List Nat)) (d : Option Nat) (op : Aop) (t : Nat) (w : Bool) (k : Nat) (own : List (Nat × Nat)) (rs : List RS) (past : List (Nat × RS × (List Nat × List Nat))) (e : List V) (H : Heap) :
    ifDG P b γ i dep d op t w k false own rs past e H (some true) = Zgg P b γ i dep ⟨d, op, some (t, w), k, false, own⟩ rs past e (opR P own (b + k) (γ + k) op (op.opds.map (Zbz e)) H) := rfl
theorem Ztc (b γ i : Nat) (dep : List (List Nat)) (d : Option Nat) (op : Aop) (t : Nat) (w : Bool) (k : Nat) (own : List (Nat × Nat)) (rs : List RS) (past : List (Nat × RS × (List Nat × List Nat))) (e : List V) (H : Heap) :
    ifDG P b γ i dep d op t w k true own rs past e H (some true) = Zgg P b γ i dep ⟨d, op, some (t, w), k, true, own⟩ rs past e (frzR P own (b + k) (γ + k) op (op.opds.map (Zbz e)) H) := rfl
end Go.AM
