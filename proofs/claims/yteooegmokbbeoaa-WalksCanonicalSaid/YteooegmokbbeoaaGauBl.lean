/- The equations by which code is stepped, gathered. -/
import Derived.Test.YteooegmokbbeoaaGauBh
import Derived.Attr
namespace Go.AM
attribute [go_sem] X_seq X_reg0 X_reg X_cond X_skip X_ret X_exit X_block X_loopK X_loopD X_stat X_dyn RunD_nil RunD_op RunD_frz contD_ok List.headD_cons List.headD_nil
attribute [go_sem] List.tail_cons List.tail_nil Option.toList_some Option.toList_none headS RunO_op RunO_frz RunO_grd RunO_raw RunO_nil isRaw Aop.opds List.map_cons List.map_nil
attribute [go_sem] evalO_t evalO_c getE_env0 getE_cons0 getE_consS putO_some putO_none Zan Zam Zbe length_env0 contO_some contC_some nrm_some
attribute [go_sem] bindX_normal bindX_ret bindX_exit blockX_normal blockX_ret blockX_exit condX_true condX_false ifG_true ifG_false finX_ret finX_normal finF_ret finF_normal
attribute [go_sem] resV_nil callV_fn grdOf endD_some o_mv o_pick o_fad o_fadF o_nchkP o_nchkF o_nchkN o_ext o_conv o_un unV_not unV_neg o_add o_sub o_mul o_quo o_rem o_eql o_neq
attribute [go_sem] o_lss o_leq o_gtr o_geq o_eqb eqK_bool eqK_ii o_mx o_mn o_alen o_cap o_mkf o_fld o_build o_slc o_slcL o_slcH o_slcLH o_slcHM o_slcLHM retR_some getH_0 getH_S
attribute [go_sem] Zas o_ldF o_ldP ldR_cells ldC_0 ldC_S ldC_2 ldC_3 ldC_4 ldC_5 o_box o_alloc o_st stR_ok o_len o_lenN o_lenS o_iad o_iadS isoR_some o_iso0 frzR_pure
attribute [go_sem] frzO_pure resV_tmp resV_tmp2 resV_tmp3 resC_cells resV_cellP resP_ptr pureL_nil pureL_cons pure_int pure_bool pure_arr pure_nils pure_pf pure_agg pure_tup
attribute [go_sem] pure_enS o_app1 o_appS appG_none appG_some o_bsl bslR_some o_mks o_mvO o_allocO o_stO frzR_sl frz1_gr frz1_cells bld partsV whole_int cellsOf_int whole_bool
attribute [go_sem] cellsOf_bool whole_nils cellsOf_nils whole_agg cellsOf_agg whole_sl cellsOf_sl whole_arr cellsOf_arr whole_ptr cellsOf_ptr whole_fn cellsOf_fn whole_mp
attribute [go_sem] cellsOf_mp whole_nilf cellsOf_nilf whole_nilm cellsOf_nilm whole_nilp cellsOf_nilp whole_str cellsOf_str whole_yld cellsOf_yld whole_enS cellsOf_enS fillL
attribute [go_sem] splice_nil splice_cons splice_S repl List.flatten_cons List.flatten_nil List.drop_zero List.drop_succ_cons List.drop_nil Option.bind_some List.getElem?_cons_zero
attribute [go_sem] List.getElem?_cons_succ slcV_L slcV_H slcV_slL Zar Zao List.length_set Int.toNat_natCast Int.toNat_one Int.toNat_zero Int.natCast_zero
attribute [go_sem] Option.map_some Option.map_none List.length_cons List.length_nil List.length_append List.length_replicate List.replicate List.nil_append List.cons_append
attribute [go_sem] List.append_nil List.set_cons_zero List.set_cons_succ List.take_zero List.take_succ_cons List.take_nil Bool.and_true Bool.and_self and_self true_and and_true
attribute [go_sem] Bool.not_true Bool.not_false Bool.false_eq_true if_true if_false ite_true ite_false decide_true decide_false decide_eq_true decide_eq_false negate
attribute [go_sem] beq_self_eq_true beq_true beq_false Bool.false_and Bool.true_and Nat.add_zero Nat.zero_add Nat.le_refl
end Go.AM

set_option linter.unusedVariables false
set_option linter.unusedSimpArgs false
namespace Go.AM
variable {P : AProg} {own : List (Nat × Nat)} {id g : Nat} {H : Heap}
noncomputable def ifDG (P : AProg) (b γ i : Nat) (dep : List (List Nat)) (d : Option Nat) (op : Aop) (t : Nat) (w : Bool) (k : Nat) (fz : Bool) (own : List (Nat × Nat)) (rs : List RS) (past : List (Nat × RS × (List Nat × List Nat))) (e : List V) (H : Heap) : Option Bool → Option (List V × Heap)
  | some true => contD P b γ i dep ⟨d, op, some (t, w), k, fz, own⟩ rs past e (if fz = true then frzR P own (b + k) (γ + k) op (op.opds.map (evalO e)) H else opR P own (b + k) (γ + k) op (op.opds.map (evalO e)) H)
  | some false => contD P b γ i dep ⟨d, op, some (t, w), k, fz, own⟩ rs past e (some (.tup [], H, [], []))
  | none => none
theorem RunD_g (b γ i : Nat) (dep : List (List Nat)) (d : Option Nat) (op : Aop) (t : Nat) (w : Bool) (k : Nat) (fz : Bool) (own : List (Nat × Nat)) (rs : List RS) (past : List (Nat × RS × (List Nat × List Nat))) (e : List V) (H : Heap) (hr : isRaw op = false) :
    RunD P b γ i dep (⟨d, op, some (t, w), k, fz, own⟩ :: rs) past e H = ifDG P b γ i dep d op t w k fz own rs past e H (grdOf e (some (t, w))) := by
  unfold RunD
  rw [runD]
  simp only [stepR]
  cases hg : grdOf e (some (t, w)) with
  | none => rfl
  | some q =>
    cases q with
    | false => rfl
    | true =>
      simp only [hr, planOf, Bool.false_eq_true, if_false, ifDG]
      cases fz with
      | false =>
        simp only [Bool.false_eq_true, if_false]
        unfold opR contD
        cases runP (planV (callI P (X P)) own (b + k) (γ + k) op (op.opds.map (evalO e))) H with
        | none => rfl
        | some q => rfl
      | true =>
        simp only [if_true]
        unfold frzR contD
        cases runP (freezeL true 9 (op.opds.map (evalO e)) fun vals' => planV (callI P (X P)) own (b + k) (γ + k) op vals') H with
        | none => rfl
        | some q => rfl
theorem ifDG_false (b γ i : Nat) (dep : List (List Nat)) (d : Option Nat) (op : Aop) (t : Nat) (w : Bool) (k : Nat) (fz : Bool) (own : List (Nat × Nat)) (rs : List RS) (past : List (Nat × RS × (List Nat × List Nat))) (e : List V) (H : Heap) :
    ifDG P b γ i dep d op t w k fz own rs past e H (some false) = contD P b γ i dep ⟨d, op, some (t, w), k, fz, own⟩ rs past e (some (.tup [], H, [], [])) := rfl
theorem ifDG_op (b γ i : Nat) (dep : List (List Nat)) (d : Option Nat) (op : Aop) (t : Nat) (w : Bool) (k : Nat) (own : List (Nat × Nat)) (rs : List RS) (past : List (Nat × RS × (List Nat × List Nat))) (e : List V) (H : Heap) :
    ifDG P b γ i dep d op t w k false own rs past e H (some true) = contD P b γ i dep ⟨d, op, some (t, w), k, false, own⟩ rs past e (opR P own (b + k) (γ + k) op (op.opds.map (evalO e)) H) := rfl
theorem ifDG_frz (b γ i : Nat) (dep : List (List Nat)) (d : Option Nat) (op : Aop) (t : Nat) (w : Bool) (k : Nat) (own : List (Nat × Nat)) (rs : List RS) (past : List (Nat × RS × (List Nat × List Nat))) (e : List V) (H : Heap) :
    ifDG P b γ i dep d op t w k true own rs past e H (some true) = contD P b γ i dep ⟨d, op, some (t, w), k, true, own⟩ rs past e (frzR P own (b + k) (γ + k) op (op.opds.map (evalO e)) H) := rfl
end Go.AM
