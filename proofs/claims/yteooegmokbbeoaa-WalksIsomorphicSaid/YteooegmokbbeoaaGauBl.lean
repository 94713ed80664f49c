/- The equations by which code is stepped, gathered. -/
import Derived.Test.YteooegmokbbeoaaGauBh
import Derived.Attr
namespace Go.AM
attribute [go_sem] X_seq X_reg0 X_reg X_cond X_skip X_ret X_exit Ybm Yeg Ycm X_stat X_dyn Zzc Yau Zzf Zxs List.headD_cons List.headD_nil
attribute [go_sem] List.tail_cons List.tail_nil Option.toList_some Option.toList_none Zoq Ydt Zxn Zyh Zzt Zzr Zgu Aop.opds List.map_cons List.map_nil
attribute [go_sem] Ybo Ydl Zhz Zky Zlh Zvj Zuv Zab Zac Zaa Zfr Zta Zsg Zyc
attribute [go_sem] Zor Zwe Zss Zms Zse Zps Zte Zqe Zyj Zww Zym Zpu Zxz Zpk
attribute [go_sem] Zyk Zzs Zee Zuz o_mv o_pick o_fad o_fadF Ycp Ycj Ydg o_ext o_conv o_un Ydc Ybh o_add o_sub o_mul o_quo o_rem o_eql o_neq
attribute [go_sem] o_lss o_leq o_gtr o_geq o_eqb Zzx eqK_ii o_mx o_mn o_alen o_cap o_mkf o_fld Yer o_slc o_slcL o_slcH Yef Yda Zxp Zvw Zdx Zdt
attribute [go_sem] Zay o_ldF o_ldP Zvp ldC_0 ldC_S ldC_2 ldC_3 ldC_4 ldC_5 o_box Ybg o_st stR_ok Yej o_lenN o_lenS o_iad o_iadS Znw Yaq Zxk
attribute [go_sem] Znu Zzy Ztu Zvk Zsc Ztj Zmb Zbv Zbg Zce Zvf Zrn Znt Yes Zlw Zxt
attribute [go_sem] Zdo o_app1 o_appS Zua Zxg o_bsl Zuh o_mks o_mvO Zxw o_stO Ycn Yea Zsp bld Zet Zxh Zqb Zsj
attribute [go_sem] Znj Zsz Zpc Zxa Zqa Zyb Zso Zvm Zpq Zuf Zpy Zza Zry Zyn
attribute [go_sem] Ztb Zsv Zog Zsx Znb Zsi Zou Zxc Zqh Zus Zpr Zts Zpj Zii
attribute [go_sem] Zsd Zqi Zzg repl List.flatten_cons List.flatten_nil List.drop_zero List.drop_succ_cons List.drop_nil Option.bind_some List.getElem?_cons_zero
attribute [go_sem] List.getElem?_cons_succ Yak Ztv Yaa Zas Zbb List.length_set Int.toNat_natCast Int.toNat_one Int.toNat_zero Int.natCast_zero
attribute [go_sem] Option.map_some Option.map_none List.length_cons List.length_nil List.length_append List.length_replicate List.replicate List.nil_append List.cons_append
attribute [go_sem] List.append_nil List.set_cons_zero List.set_cons_succ List.take_zero List.take_succ_cons List.take_nil Bool.and_true Bool.and_self and_self true_and and_true
attribute [go_sem] Bool.not_true Bool.not_false Bool.false_eq_true if_true if_false ite_true ite_false decide_true decide_false decide_eq_true decide_eq_false Zft
attribute [go_sem] beq_self_eq_true beq_true beq_false Bool.false_and Bool.true_and Nat.add_zero Nat.zero_add Nat.le_refl
end Go.AM

set_option linter.unusedVariables false
set_option linter.unusedSimpArgs false
namespace Go.AM
variable {P : Zcb} {own : List (Nat × Nat)} {id g : Nat} {H : Heap}
noncomputable def ifDG (P : Zcb) (b γ i : Nat) (dep : List (List Nat)) (d : Option Nat) (op : Aop) (t : Nat) (w : Bool) (k : Nat) (fz : Bool) (own : List (Nat × Nat)) (rs : List RS) (past : List (Nat × RS × (List Nat × List Nat))) (e : List V) (H : Heap) : Option Bool → Option (List V × Heap)
  | some true => Zfy P b γ i dep ⟨d, op, some (t, w), k, fz, own⟩ rs past e (if fz = true then frzR P own (b + k) (γ + k) op (op.opds.map (Zbu e)) H else opR P own (b + k) (γ + k) op (op.opds.map (Zbu e)) H)
  | some false => Zfy P b γ i dep ⟨d, op, some (t, w), k, fz, own⟩ rs past e (some (.tup [], H, [], []))
  | none => none
theorem RunD_g (b γ i : Nat) (dep : List (List Nat)) (d : Option Nat) (op : Aop) (t : Nat) (w : Bool) (k : Nat) (fz : Bool) (own : List (Nat × Nat)) (rs : List RS) (past : List (Nat × RS × (List Nat × List Nat))) (e : List V) (H : Heap) (hr : Zgu op = false) :
    RunD P b γ i dep (⟨d, op, some (t, w), k, fz, own⟩ :: rs) past e H = ifDG P b γ i dep d op t w k fz own rs past e H (Zee e (some (t, w))) := by
  unfold RunD
  rw [runD]
  simp only [Zda]
  cases hg : Zee e (some (t, w)) with
  | none => rfl
  | some q =>
    cases q with
    | false => rfl
    | true =>
      simp only [hr, Zdd, Bool.false_eq_true, if_false, ifDG]
      cases fz with
      | false =>
        simp only [Bool.false_eq_true, if_false]
        unfold opR Zfy
        cases runP (Zbc (Zaq P (X P)) own (b + k) (γ + k) op (op.opds.map (Zbu e))) H with
        | none => rfl
        | some q => rfl
      | true =>
        simp only [if_true]
        unfold frzR Zfy
        cases runP (Zbi true 9 (op.opds.map (Zbu e)) fun vals' => Zbc (Zaq P (X P)) own (b + k) (γ + k) op vals') H with
        | none => rfl
        | some q => rfl
theorem ifDG_false (b γ i : Nat) (dep : List (List Nat)) (d : Option Nat) (op : Aop) (t : Nat) (w : Bool) (k : Nat) (fz : Bool) (own : List (Nat × Nat)) (rs : List RS) (past : List (Nat × RS × (List Nat × List Nat))) (e : List V) (H : Heap) :
    ifDG P b γ i dep d op t w k fz own rs past e H (some false) = Zfy P b γ i dep ⟨d, op, some (t, w), k, fz, own⟩ rs past e (some (.tup [], H, [], [])) := rfl
theorem ifDG_op (b γ i : Nat) (dep : List (List Nat)) (d : Option Nat) (op : Aop) (t : Nat) (w : Bool) (k : Nat) (own : List (Nat × Nat)) (rs : List RS) (past : List (Nat × RS × (List Nat × List Nat))) (e : List V) (H : Heap) :
    ifDG P b γ i dep d op t w k false own rs past e H (some true) = Zfy P b γ i dep ⟨d, op, some (t, w), k, false, own⟩ rs past e (opR P own (b + k) (γ + k) op (op.opds.map (Zbu e)) H) := rfl
theorem ifDG_frz (b γ i : Nat) (dep : List (List Nat)) (d : Option Nat) (op : Aop) (t : Nat) (w : Bool) (k : Nat) (own : List (Nat × Nat)) (rs : List RS) (past : List (Nat × RS × (List Nat × List Nat))) (e : List V) (H : Heap) :
    ifDG P b γ i dep d op t w k true own rs past e H (some true) = Zfy P b γ i dep ⟨d, op, some (t, w), k, true, own⟩ rs past e (frzR P own (b + k) (γ + k) op (op.opds.map (Zbu e)) H) := rfl
end Go.AM
