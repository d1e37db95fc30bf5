/-
  THE CALCULUS: what is said in plain forms by itself.
-/
import Derived.Test.YtafdnkachndacaaAixFocus
set_option linter.unusedSimpArgs false
set_option linter.unusedVariables false
namespace Go.Aix
attribute [simp] r_purI r_purB r_purC wrap_id r_eql r_neq r_lss r_leq r_gtr r_geq r_add r_sub
attribute [simp] r_mul r_ofn r_len r_inb r_inle r_nle r_ne r_tn r_nadd r_nsub r_bnot r_conv
attribute [simp] r_beq r_mn r_mx r_els r_isShF r_isNo r_isOwn r_setset r_app r_ext1 r_ext2 r_ext5
attribute [simp] pL_nl parsC_dec pars0_dec pI_dec pU8_dec pB_dec mkE_pre mkE_i mkE_b mkE_l Ty.encs_nil mapE_length
attribute [simp] mapE_ext tI64_rd tI64_is tU8_rd tU8_is tL_rd tL_is Ty.encs_length Ty.ext_encs Ty.downs_real Ty.deads_real Ty.app_encs
attribute [simp] pL_I64 pL_U8 tNode_pur_own tNode_odowns tNode_eta pL_Node tNode_dec tNode_rd0 tNode_is0 tNode_ord0 tNode_ois0 tNode_rd1
attribute [simp] tNode_is1 tNode_ord1 tNode_ois1 tNode_rd2 tNode_is2 tNode_ord2 tNode_ois2 tNode_rd3 tNode_is3 tNode_ord3 tNode_ois3 tNode_rd4
attribute [simp] tNode_is4 tNode_ord4 tNode_ois4 tNode_rd5 tNode_is5 tNode_ord5 tNode_ois5 tNode_rd6 tNode_is6 tNode_ord6 tPut_pur_own tPut_odowns
attribute [simp] tPut_eta pL_Put tPut_dec tPut_rd0 tPut_is0 tPut_ord0 tPut_ois0 tPut_rd1 tPut_is1 tPut_ord1 tPut_ois1 tPut_rd2
attribute [simp] tPut_is2 tPut_ord2 tPut_ois2 tPut_rd3 tPut_is3 tPut_ord3 tPut_rd4 tPut_is4 tPut_ord4 tPut_ois4 tEntry_pur_own tEntry_odowns
attribute [simp] tEntry_eta pL_Entry tEntry_dec tEntry_rd0 tEntry_is0 tEntry_ord0 tEntry_rd1 tEntry_is1 tEntry_ord1 tEntry_ois1 tCount_pur_own tCount_odowns
attribute [simp] tCount_eta pL_Count tCount_dec tCount_rd0 tCount_is0 tCount_ord0 tCount_ois0 tCount_rd1 tCount_is1 tCount_ord1 tCount_ois1 tCount_rd2
attribute [simp] tCount_is2 tCount_ord2 tCount_ois2 tBatch_pur_own tBatch_odowns tBatch_eta pL_Batch tBatch_dec tBatch_rd0 tBatch_is0 tBatch_ord0 tBatch_ois0
attribute [simp] tBatch_rd1 tBatch_is1 tBatch_ord1 tBatch_ois1 tBatch_rd2 tBatch_is2 tBatch_ord2 tFrame_pur_own tFrame_odowns tFrame_eta pL_Frame tFrame_dec
attribute [simp] tFrame_rd0 tFrame_is0 tFrame_ord0 tFrame_ois0 tFrame_rd1 tFrame_is1 tFrame_ord1 tFrame_ois1 tFrame_rd2 tFrame_is2 tFrame_ord2 tFrame_ois2
attribute [simp] tFrame_rd3 tFrame_is3 tFrame_ord3 tFrame_ois3 tFrame_rd4 tFrame_is4 tFrame_ord4 tFrame_rd5 tFrame_is5 tFrame_ord5 tHeld_pur_own tHeld_odowns
attribute [simp] tHeld_eta pL_Held tHeld_dec tHeld_rd0 tHeld_is0 tHeld_ord0 tHeld_rd1 tHeld_is1 tHeld_ord1 tHeld_rd2 tHeld_is2 tHeld_ord2
attribute [simp] tHeld_rd3 tHeld_is3 tHeld_ord3 tHeld_ois3 tRelease_pur_own tRelease_odowns tRelease_eta pL_Release tRelease_dec tRelease_rd0 tRelease_is0 tRelease_ord0
attribute [simp] tRelease_ois0 tRelease_rd1 tRelease_is1 tRelease_ord1 tRelease_ois1 tRelease_rd2 tRelease_is2 tRelease_ord2 tWorker_pur_own tWorker_odowns tWorker_eta pL_Worker
attribute [simp] tWorker_dec tWorker_rd0 tWorker_is0 tWorker_ord0 tWorker_rd1 tWorker_is1 tWorker_ord1 tWorker_rd2 tWorker_is2 tWorker_ord2 tWorker_rd3 tWorker_is3
attribute [simp] tWorker_ord3 tWorker_ois3 tWorker_rd4 tWorker_is4 tWorker_ord4 tWorker_ois4 tWorker_rd5 tWorker_is5 tWorker_ord5 tWorker_rd6 tWorker_is6 tWorker_ord6
attribute [simp] tWorker_ois6 tCluster_pur_own tCluster_odowns tCluster_eta pL_Cluster tCluster_dec tCluster_rd0 tCluster_is0 tCluster_ord0 tCluster_rd1 tCluster_is1 tCluster_ord1
attribute [simp] tCluster_rd2 tCluster_is2 tCluster_ord2
end Go.Aix
