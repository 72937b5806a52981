/- Lemmas of the claim: the machine of the proof and the walks of the program. Conditions: as each says. -/
import Derived.Test.YtgdbknbgpkmncaaGreatDoorG3
import Derived.ProofKit
import Derived.OpenShut
import Derived.LaidMore
import Derived.Lay
import Derived.SevenTiedAt
import Derived.Stop.Joined
import Derived.Recover
section
/- The rules for rewriting, tied together. No condition. -/
namespace Go.AM
theorem rb0 : type_of% (And.intro (And.intro (And.intro (And.intro (And.intro (@run_skip) (And.intro (@run_label) (@run_ret))) (And.intro (And.intro (@run_goto) (@run_leave)) (And.intro (@run_seq) (@run_block)))) (And.intro (And.intro (And.intro (@run_scope) (@run_region)) (And.intro (@run_cond) (@runB_true))) (And.intro (And.intro (@runB_false) (@exit_done)) (And.intro (@exit_seq_normal) (@exit_seq_ret))))) (And.intro (And.intro (And.intro (@exit_seq_exit) (And.intro (@exit_seq_goto) (@exit_seq_pan))) (And.intro (And.intro (@exit_blk_normal) (@exit_blk_ret)) (And.intro (@exit_blk_goto) (@exit_blk_pan)))) (And.intro (And.intro (And.intro (@exit_blk_exit) (@exit_again_normal)) (And.intro (@exit_again_ret) (@exit_again_exit))) (And.intro (And.intro (@exit_again_goto) (@exit_again_pan)) (And.intro (@exit_scope_normal) (@exit_scope_ret)))))) (And.intro (And.intro (And.intro (And.intro (@exit_scope_exit) (And.intro (@exit_scope_pan) (@run_nil))) (And.intro (And.intro (@run_guard) (@runG_true)) (And.intro (@runG_false) (@runV_ret)))) (And.intro (And.intro (And.intro (@runV_some) (@afterC_ret)) (And.intro (@rcd_nil) (@rcd_guard))) (And.intro (And.intro (@runGR_true) (@runGR_false)) (And.intro (@runVR_ret) (@runVR_some))))) (And.intro (And.intro (And.intro (@afterR_ret) (And.intro (@at_put) (@put_none))) (And.intro (And.intro (@at_args) (@eval_tmp)) (And.intro (@eval_const) (@eval_global)))) (And.intro (And.intro (And.intro (@eval_func) (@callee_func)) (And.intro (@callee_tmp) (@effPick_true))) (And.intro (And.intro (@effPick_false) (@effNil_ptr)) (And.intro (@effNil_ifc) (@effNil_func))))))) := And.intro (And.intro (And.intro (And.intro (And.intro (@run_skip) (And.intro (@run_label) (@run_ret))) (And.intro (And.intro (@run_goto) (@run_leave)) (And.intro (@run_seq) (@run_block)))) (And.intro (And.intro (And.intro (@run_scope) (@run_region)) (And.intro (@run_cond) (@runB_true))) (And.intro (And.intro (@runB_false) (@exit_done)) (And.intro (@exit_seq_normal) (@exit_seq_ret))))) (And.intro (And.intro (And.intro (@exit_seq_exit) (And.intro (@exit_seq_goto) (@exit_seq_pan))) (And.intro (And.intro (@exit_blk_normal) (@exit_blk_ret)) (And.intro (@exit_blk_goto) (@exit_blk_pan)))) (And.intro (And.intro (And.intro (@exit_blk_exit) (@exit_again_normal)) (And.intro (@exit_again_ret) (@exit_again_exit))) (And.intro (And.intro (@exit_again_goto) (@exit_again_pan)) (And.intro (@exit_scope_normal) (@exit_scope_ret)))))) (And.intro (And.intro (And.intro (And.intro (@exit_scope_exit) (And.intro (@exit_scope_pan) (@run_nil))) (And.intro (And.intro (@run_guard) (@runG_true)) (And.intro (@runG_false) (@runV_ret)))) (And.intro (And.intro (And.intro (@runV_some) (@afterC_ret)) (And.intro (@rcd_nil) (@rcd_guard))) (And.intro (And.intro (@runGR_true) (@runGR_false)) (And.intro (@runVR_ret) (@runVR_some))))) (And.intro (And.intro (And.intro (@afterR_ret) (And.intro (@at_put) (@put_none))) (And.intro (And.intro (@at_args) (@eval_tmp)) (And.intro (@eval_const) (@eval_global)))) (And.intro (And.intro (And.intro (@eval_func) (@callee_func)) (And.intro (@callee_tmp) (@effPick_true))) (And.intro (And.intro (@effPick_false) (@effNil_ptr)) (And.intro (@effNil_ifc) (@effNil_func))))))
theorem rb1 : type_of% (And.intro (And.intro (And.intro (And.intro (And.intro (@effExtract_tuple) (And.intro (@u_min2) (@u_max2))) (And.intro (And.intro (@u_len_slc) (@u_len_str)) (And.intro (@u_len_map) (@mlX_some)))) (And.intro (And.intro (And.intro (@effLoad_ptr) (@ldX_one)) (And.intro (@ldX_agg) (@effStore_ptr))) (And.intro (And.intro (@stX_exact) (@stX_loose)) (And.intro (@stX_bytes) (@opR_some))))) (And.intro (And.intro (And.intro (@effField_ptr) (And.intro (@fldX_some) (@addr_add))) (And.intro (And.intro (@effIdx_arr) (@ixA_some)) (And.intro (@effIdx_slc) (@ixS_some)))) (And.intro (And.intro (And.intro (@u_field) (@fvX_one)) (And.intro (@fvX_agg) (@ivX_some))) (And.intro (And.intro (@effBin_add) (@effBin_sub)) (And.intro (@effBin_mul) (@effBin_quo)))))) (And.intro (And.intro (And.intro (And.intro (@effBin_rem) (And.intro (@effBin_eql) (@effBin_neq))) (And.intro (And.intro (@effBin_lss) (@effBin_leq)) (And.intro (@effBin_gtr) (@effBin_geq)))) (And.intro (And.intro (And.intro (@effBin_shl) (@effBin_shr)) (And.intro (@effBin_and) (@effBin_or))) (And.intro (And.intro (@effBin_andNot) (@effUn_not)) (And.intro (@u_eql_bool) (@u_neq_bool))))) (And.intro (And.intro (And.intro (@u_eql_ptr) (And.intro (@u_neq_ptr) (@u_eql_slc))) (And.intro (And.intro (@u_neq_slc) (@u_eql_ifc)) (And.intro (@u_neq_ifc) (@u_conv)))) (And.intro (And.intro (And.intro (@cvI_int) (@alX_some)) (And.intro (@alY_false) (@effAlloc_eq))) (And.intro (And.intro (@cellsOf_bool) (@cellsOf_int)) (And.intro (@cellsOf_string) (@cellsOf_pointer))))))) := And.intro (And.intro (And.intro (And.intro (And.intro (@effExtract_tuple) (And.intro (@u_min2) (@u_max2))) (And.intro (And.intro (@u_len_slc) (@u_len_str)) (And.intro (@u_len_map) (@mlX_some)))) (And.intro (And.intro (And.intro (@effLoad_ptr) (@ldX_one)) (And.intro (@ldX_agg) (@effStore_ptr))) (And.intro (And.intro (@stX_exact) (@stX_loose)) (And.intro (@stX_bytes) (@opR_some))))) (And.intro (And.intro (And.intro (@effField_ptr) (And.intro (@fldX_some) (@addr_add))) (And.intro (And.intro (@effIdx_arr) (@ixA_some)) (And.intro (@effIdx_slc) (@ixS_some)))) (And.intro (And.intro (And.intro (@u_field) (@fvX_one)) (And.intro (@fvX_agg) (@ivX_some))) (And.intro (And.intro (@effBin_add) (@effBin_sub)) (And.intro (@effBin_mul) (@effBin_quo)))))) (And.intro (And.intro (And.intro (And.intro (@effBin_rem) (And.intro (@effBin_eql) (@effBin_neq))) (And.intro (And.intro (@effBin_lss) (@effBin_leq)) (And.intro (@effBin_gtr) (@effBin_geq)))) (And.intro (And.intro (And.intro (@effBin_shl) (@effBin_shr)) (And.intro (@effBin_and) (@effBin_or))) (And.intro (And.intro (@effBin_andNot) (@effUn_not)) (And.intro (@u_eql_bool) (@u_neq_bool))))) (And.intro (And.intro (And.intro (@u_eql_ptr) (And.intro (@u_neq_ptr) (@u_eql_slc))) (And.intro (And.intro (@u_neq_slc) (@u_eql_ifc)) (And.intro (@u_neq_ifc) (@u_conv)))) (And.intro (And.intro (And.intro (@cvI_int) (@alX_some)) (And.intro (@alY_false) (@effAlloc_eq))) (And.intro (And.intro (@cellsOf_bool) (@cellsOf_int)) (And.intro (@cellsOf_string) (@cellsOf_pointer))))))
theorem rb2 : type_of% (And.intro (And.intro (And.intro (And.intro (And.intro (@cellsOf_slice) (And.intro (@cellsOf_map) (@cellsOf_func))) (And.intro (And.intro (@cellsOf_nilFunc) (@cellsOf_iface)) (And.intro (@cellsOf_nilIface) (@cellsOf_agg)))) (And.intro (And.intro (And.intro (@effMakeSlice_eq) (@mkX_some)) (And.intro (@effSlice_ptr) (@effSlice_slc))) (And.intro (And.intro (@u_bounds) (@bnd_none)) (And.intro (@bnd_int) (@u_sliceAddr))))) (And.intro (And.intro (And.intro (@sadX_exact) (And.intro (@sadX_ro) (@sliceAddr_nil))) (And.intro (And.intro (@u_firstL) (@fsX_some)) (And.intro (@lenV_slc) (@lenV_str)))) (And.intro (And.intro (And.intro (@storable_bool) (@storable_int)) (And.intro (@storable_string) (@storable_pointer))) (And.intro (And.intro (@storable_slice) (@storable_agg)) (And.intro (@storable_iface) (@storable_nilIface)))))) (And.intro (And.intro (And.intro (And.intro (@Heap.get_upd_same) (And.intro (@Heap.get_new_same) (@Heap.nx_upd))) (And.intro (And.intro (@Heap.nx_new) (@Heap.apply_none)) (And.intro (@Heap.apply_wr) (@Heap.apply_nw)))) (And.intro (And.intro (And.intro (@Heap.apply_wr_nw) (@fnQ_normal)) (And.intro (@fnQ_ret) (@fnQ_pan))) (And.intro (And.intro (@resultV_one) (@resultV_nil)) (And.intro (@resultV_two) (@resAll_nil))))) (And.intro (And.intro (And.intro (@resAll_tmp) (And.intro (@fillL_nil) (@fillL_cons))) (And.intro (And.intro (@fillX_some) (@ret_val)) (And.intro (@resultV_cell) (@resAll_cell)))) (And.intro (And.intro (And.intro (@didsOk_nil) (@bind_some_agg)) (And.intro (@Heap.upd_upd) (@foot_load))) (And.intro (And.intro (@foot_store) (@foot_conv)) (And.intro (@foot_bin) (@foot_slice))))))) := And.intro (And.intro (And.intro (And.intro (And.intro (@cellsOf_slice) (And.intro (@cellsOf_map) (@cellsOf_func))) (And.intro (And.intro (@cellsOf_nilFunc) (@cellsOf_iface)) (And.intro (@cellsOf_nilIface) (@cellsOf_agg)))) (And.intro (And.intro (And.intro (@effMakeSlice_eq) (@mkX_some)) (And.intro (@effSlice_ptr) (@effSlice_slc))) (And.intro (And.intro (@u_bounds) (@bnd_none)) (And.intro (@bnd_int) (@u_sliceAddr))))) (And.intro (And.intro (And.intro (@sadX_exact) (And.intro (@sadX_ro) (@sliceAddr_nil))) (And.intro (And.intro (@u_firstL) (@fsX_some)) (And.intro (@lenV_slc) (@lenV_str)))) (And.intro (And.intro (And.intro (@storable_bool) (@storable_int)) (And.intro (@storable_string) (@storable_pointer))) (And.intro (And.intro (@storable_slice) (@storable_agg)) (And.intro (@storable_iface) (@storable_nilIface)))))) (And.intro (And.intro (And.intro (And.intro (@Heap.get_upd_same) (And.intro (@Heap.get_new_same) (@Heap.nx_upd))) (And.intro (And.intro (@Heap.nx_new) (@Heap.apply_none)) (And.intro (@Heap.apply_wr) (@Heap.apply_nw)))) (And.intro (And.intro (And.intro (@Heap.apply_wr_nw) (@fnQ_normal)) (And.intro (@fnQ_ret) (@fnQ_pan))) (And.intro (And.intro (@resultV_one) (@resultV_nil)) (And.intro (@resultV_two) (@resAll_nil))))) (And.intro (And.intro (And.intro (@resAll_tmp) (And.intro (@fillL_nil) (@fillL_cons))) (And.intro (And.intro (@fillX_some) (@ret_val)) (And.intro (@resultV_cell) (@resAll_cell)))) (And.intro (And.intro (And.intro (@didsOk_nil) (@bind_some_agg)) (And.intro (@Heap.upd_upd) (@foot_load))) (And.intro (And.intro (@foot_store) (@foot_conv)) (And.intro (@foot_bin) (@foot_slice))))))
theorem rb3 : type_of% (And.intro (And.intro (And.intro (And.intro (And.intro (@foot_build) (And.intro (@foot_mks) (@foot_alloc))) (And.intro (And.intro (@foot_box) (@foot_buildSlice)) (And.intro (@foot_lookup) (@blkOf_ptr)))) (And.intro (And.intro (And.intro (@blkOf_ptrn) (@blkOf_slice)) (And.intro (@blkOf_slicen) (@blkOf_int))) (And.intro (And.intro (@blkOf_bool) (@blkOf_string)) (And.intro (@didsOk_cons) (@pairOk_some))))) (And.intro (And.intro (And.intro (@swap_skip) (And.intro (@swap_skip') (@swap_ee))) (And.intro (And.intro (@swap_ce) (@swap_ec)) (And.intro (@sameB_self) (@newIds_nil)))) (And.intro (And.intro (And.intro (@newIds_cons) (@disj_nil)) (And.intro (@disj_nil') (@disj_cons))) (And.intro (And.intro (@overL_cs) (@overL_cz)) (And.intro (@overL_nil) (@o_move)))))) (And.intro (And.intro (And.intro (And.intro (@o_assign) (And.intro (@o_pick) (@o_alloc))) (And.intro (And.intro (@o_box) (@o_build)) (And.intro (@o_buildSlice) (@o_load)))) (And.intro (And.intro (And.intro (@o_store) (@o_nilc)) (And.intro (@o_bin) (@o_un))) (And.intro (And.intro (@o_conv) (@o_arrp)) (And.intro (@o_ifc) (@o_fun))))) (And.intro (And.intro (And.intro (@o_mkm) (And.intro (@o_mks) (@o_slice))) (And.intro (And.intro (@o_fieldAddr) (@o_field)) (And.intro (@o_indexAddr) (@o_index)))) (And.intro (And.intro (And.intro (@o_lookup) (@o_mapUpdate)) (And.intro (@o_range) (@o_next))) (And.intro (And.intro (@o_tassert) (@o_extract)) (And.intro (@o_builtin) (@q_move))))))) := And.intro (And.intro (And.intro (And.intro (And.intro (@foot_build) (And.intro (@foot_mks) (@foot_alloc))) (And.intro (And.intro (@foot_box) (@foot_buildSlice)) (And.intro (@foot_lookup) (@blkOf_ptr)))) (And.intro (And.intro (And.intro (@blkOf_ptrn) (@blkOf_slice)) (And.intro (@blkOf_slicen) (@blkOf_int))) (And.intro (And.intro (@blkOf_bool) (@blkOf_string)) (And.intro (@didsOk_cons) (@pairOk_some))))) (And.intro (And.intro (And.intro (@swap_skip) (And.intro (@swap_skip') (@swap_ee))) (And.intro (And.intro (@swap_ce) (@swap_ec)) (And.intro (@sameB_self) (@newIds_nil)))) (And.intro (And.intro (And.intro (@newIds_cons) (@disj_nil)) (And.intro (@disj_nil') (@disj_cons))) (And.intro (And.intro (@overL_cs) (@overL_cz)) (And.intro (@overL_nil) (@o_move)))))) (And.intro (And.intro (And.intro (And.intro (@o_assign) (And.intro (@o_pick) (@o_alloc))) (And.intro (And.intro (@o_box) (@o_build)) (And.intro (@o_buildSlice) (@o_load)))) (And.intro (And.intro (And.intro (@o_store) (@o_nilc)) (And.intro (@o_bin) (@o_un))) (And.intro (And.intro (@o_conv) (@o_arrp)) (And.intro (@o_ifc) (@o_fun))))) (And.intro (And.intro (And.intro (@o_mkm) (And.intro (@o_mks) (@o_slice))) (And.intro (And.intro (@o_fieldAddr) (@o_field)) (And.intro (@o_indexAddr) (@o_index)))) (And.intro (And.intro (And.intro (@o_lookup) (@o_mapUpdate)) (And.intro (@o_range) (@o_next))) (And.intro (And.intro (@o_tassert) (@o_extract)) (And.intro (@o_builtin) (@q_move))))))
theorem rb4 : type_of% (And.intro (And.intro (And.intro (And.intro (And.intro (@q_assign) (@q_pick)) (And.intro (@q_alloc) (@q_box))) (And.intro (And.intro (@q_build) (@q_buildSlice)) (And.intro (@q_load) (And.intro (@q_store) (@q_nilc))))) (And.intro (And.intro (And.intro (@q_bin) (@q_un)) (And.intro (@q_conv) (And.intro (@q_arrp) (@q_ifc)))) (And.intro (And.intro (@q_fun) (@q_mkm)) (And.intro (@q_mks) (And.intro (@q_slice) (@q_fieldAddr)))))) (And.intro (And.intro (And.intro (And.intro (@q_field) (@q_indexAddr)) (And.intro (@q_index) (@q_lookup))) (And.intro (And.intro (@q_mapUpdate) (@q_range)) (And.intro (@q_next) (And.intro (@q_tassert) (@q_extract))))) (And.intro (And.intro (And.intro (@q_builtin) (@o_call)) (And.intro (@o_invoke) (And.intro (@q_callv) (@q_invoke)))) (And.intro (And.intro (@b_len) (@b_append)) (And.intro (@b_copy) (And.intro (@b_clear) (@b_delete))))))) := And.intro (And.intro (And.intro (And.intro (And.intro (@q_assign) (@q_pick)) (And.intro (@q_alloc) (@q_box))) (And.intro (And.intro (@q_build) (@q_buildSlice)) (And.intro (@q_load) (And.intro (@q_store) (@q_nilc))))) (And.intro (And.intro (And.intro (@q_bin) (@q_un)) (And.intro (@q_conv) (And.intro (@q_arrp) (@q_ifc)))) (And.intro (And.intro (@q_fun) (@q_mkm)) (And.intro (@q_mks) (And.intro (@q_slice) (@q_fieldAddr)))))) (And.intro (And.intro (And.intro (And.intro (@q_field) (@q_indexAddr)) (And.intro (@q_index) (@q_lookup))) (And.intro (And.intro (@q_mapUpdate) (@q_range)) (And.intro (@q_next) (And.intro (@q_tassert) (@q_extract))))) (And.intro (And.intro (And.intro (@q_builtin) (@o_call)) (And.intro (@o_invoke) (And.intro (@q_callv) (@q_invoke)))) (And.intro (And.intro (@b_len) (@b_append)) (And.intro (@b_copy) (And.intro (@b_clear) (@b_delete))))))
end Go.AM
end
section
/- Lemmas of the library, tied together for rewriting. No condition. -/
namespace Go.AM
theorem Yk : type_of% (And.intro (And.intro (And.intro (And.intro (And.intro (And.intro (@List.set_cons_zero.{0}) (@List.set_cons_succ.{0})) (And.intro (@List.cons_append.{0}) (@List.nil_append.{0}))) (And.intro (And.intro (@List.append_nil.{0}) (@List.all_cons.{0})) (And.intro (@List.all_nil.{0}) (@List.getElem?_cons_zero.{0})))) (And.intro (And.intro (And.intro (@List.getElem?_cons_succ.{0}) (@List.length_cons.{0})) (And.intro (@List.length_nil.{0}) (@Option.getD_some.{0}))) (And.intro (And.intro (@Option.some.injEq.{0}) (@Option.isNone_some.{0})) (And.intro (@Option.isNone_none.{0}) (@Option.isSome_some.{0}))))) (And.intro (And.intro (And.intro (And.intro (@Option.isSome_none.{0}) (@List.isEmpty_nil.{0})) (And.intro (@List.any_cons.{0}) (@List.any_nil.{0}))) (And.intro (And.intro (@List.drop_zero.{0}) (@List.drop_succ_cons.{0})) (And.intro (@List.take_succ_cons.{0}) (@List.take_zero.{0})))) (And.intro (And.intro (And.intro (@List.take_nil.{0}) (@List.drop_nil.{0})) (And.intro (@List.map_toArray.{0, 0}) (@List.map_cons.{0, 0}))) (And.intro (And.intro (@List.map_nil.{0, 0}) (@Option.map_some.{0, 0})) (And.intro (@Option.map_none.{0, 0}) (And.intro (@Option.bind_some.{0, 0}) (@Nat.blt_eq))))))) (And.intro (And.intro (And.intro (And.intro (And.intro (@decide_eq_true_eq) (@Bool.and_true)) (And.intro (@Bool.true_and) (@Bool.and_self))) (And.intro (And.intro (@Bool.not_true) (@Bool.not_false)) (And.intro (@true_and) (@and_true)))) (And.intro (And.intro (And.intro (@true_or) (@or_true)) (And.intro (@false_or) (@or_false))) (And.intro (And.intro (@Bool.true_eq_false) (@Bool.false_eq_true)) (And.intro (@decide_true) (@decide_false))))) (And.intro (And.intro (And.intro (And.intro (@Int.toNat_natCast) (@Nat.zero_add)) (And.intro (@Nat.add_zero) (@Bool.or_false))) (And.intro (And.intro (@Bool.false_or) (@Bool.and_eq_true)) (And.intro (@exists_eq_left'.{1}) (@ite_true.{1})))) (And.intro (And.intro (And.intro (@ite_false.{1}) (@cond_true.{1})) (And.intro (@cond_false.{1}) (@if_true.{1}))) (And.intro (And.intro (@if_false.{1}) (@ite_true.{0})) (And.intro (@ite_false.{0}) (And.intro (@if_true.{0}) (@if_false.{0})))))))) := (And.intro (And.intro (And.intro (And.intro (And.intro (And.intro (@List.set_cons_zero.{0}) (@List.set_cons_succ.{0})) (And.intro (@List.cons_append.{0}) (@List.nil_append.{0}))) (And.intro (And.intro (@List.append_nil.{0}) (@List.all_cons.{0})) (And.intro (@List.all_nil.{0}) (@List.getElem?_cons_zero.{0})))) (And.intro (And.intro (And.intro (@List.getElem?_cons_succ.{0}) (@List.length_cons.{0})) (And.intro (@List.length_nil.{0}) (@Option.getD_some.{0}))) (And.intro (And.intro (@Option.some.injEq.{0}) (@Option.isNone_some.{0})) (And.intro (@Option.isNone_none.{0}) (@Option.isSome_some.{0}))))) (And.intro (And.intro (And.intro (And.intro (@Option.isSome_none.{0}) (@List.isEmpty_nil.{0})) (And.intro (@List.any_cons.{0}) (@List.any_nil.{0}))) (And.intro (And.intro (@List.drop_zero.{0}) (@List.drop_succ_cons.{0})) (And.intro (@List.take_succ_cons.{0}) (@List.take_zero.{0})))) (And.intro (And.intro (And.intro (@List.take_nil.{0}) (@List.drop_nil.{0})) (And.intro (@List.map_toArray.{0, 0}) (@List.map_cons.{0, 0}))) (And.intro (And.intro (@List.map_nil.{0, 0}) (@Option.map_some.{0, 0})) (And.intro (@Option.map_none.{0, 0}) (And.intro (@Option.bind_some.{0, 0}) (@Nat.blt_eq))))))) (And.intro (And.intro (And.intro (And.intro (And.intro (@decide_eq_true_eq) (@Bool.and_true)) (And.intro (@Bool.true_and) (@Bool.and_self))) (And.intro (And.intro (@Bool.not_true) (@Bool.not_false)) (And.intro (@true_and) (@and_true)))) (And.intro (And.intro (And.intro (@true_or) (@or_true)) (And.intro (@false_or) (@or_false))) (And.intro (And.intro (@Bool.true_eq_false) (@Bool.false_eq_true)) (And.intro (@decide_true) (@decide_false))))) (And.intro (And.intro (And.intro (And.intro (@Int.toNat_natCast) (@Nat.zero_add)) (And.intro (@Nat.add_zero) (@Bool.or_false))) (And.intro (And.intro (@Bool.false_or) (@Bool.and_eq_true)) (And.intro (@exists_eq_left'.{1}) (@ite_true.{1})))) (And.intro (And.intro (And.intro (@ite_false.{1}) (@cond_true.{1})) (And.intro (@cond_false.{1}) (@if_true.{1}))) (And.intro (And.intro (@if_false.{1}) (@ite_true.{0})) (And.intro (@ite_false.{0}) (And.intro (@if_true.{0}) (@if_false.{0}))))))))
theorem Ye : type_of% (And.intro (And.intro (And.intro (@at_put) (@at_args)) (And.intro (@cond_true.{1}) (@cond_false.{1}))) (And.intro (And.intro (@List.getElem?_cons_zero.{0}) (@List.getElem?_cons_succ.{0})) (And.intro (@Option.getD_some.{0}) (@Nat.add_zero)))) := (And.intro (And.intro (And.intro (@at_put) (@at_args)) (And.intro (@cond_true.{1}) (@cond_false.{1}))) (And.intro (And.intro (@List.getElem?_cons_zero.{0}) (@List.getElem?_cons_succ.{0})) (And.intro (@Option.getD_some.{0}) (@Nat.add_zero))))
theorem Yh : type_of% (And.intro (@Heap.get_upd_ne) (And.intro (@Heap.get_new_ne) (@Heap.get_new_at))) := (And.intro (@Heap.get_upd_ne) (And.intro (@Heap.get_new_ne) (@Heap.get_new_at)))
theorem Yc : type_of% (And.intro (And.intro (@Heap.get_upd_same) (@Heap.get_new_same)) (And.intro (@Heap.nx_upd) (@Heap.nx_new))) := (And.intro (And.intro (@Heap.get_upd_same) (@Heap.get_new_same)) (And.intro (@Heap.nx_upd) (@Heap.nx_new)))
theorem Yn : type_of% (And.intro (@Heap.nx_upd) (@Heap.nx_new)) := (And.intro (@Heap.nx_upd) (@Heap.nx_new))
end Go.AM
end
section
/- From a run of the machine to a row. -/
namespace Go.AM
open Go.ChangeShapes Go.WideShapes

variable {P : Program} {W : World} {r : Reach} {base : Nat} {u : TypeId} {x : Value}

/- ## what an argument is made of -/
theorem cell_int {k : IntKind} (hu : P.underlying u = some (.int k)) (h : Cell.okWide P W r base u x) : ∃ n, x = .int k n ∧ k.has n := by
  unfold Cell.okWide at h
  cases x <;> simp only [hu] at h <;> simp only [Cell.ok, hu] at h
  obtain ⟨rfl, h⟩ := h
  exact ⟨_, rfl, h⟩
theorem val_int {k : IntKind} (hu : P.underlying u = some (.int k)) (h : Value.okWide P W r base u x) : ∃ n, x = .int k n ∧ k.has n := by
  unfold Value.okWide at h
  simp only [hu] at h
  exact cell_int hu h
/- ## what stays -/
def Still (W W' : World) : Prop := W'.os = W.os ∧ W'.output = W.output ∧ ∀ cb : Nat, cb < W.heap.size → W'.heap[cb]? = W.heap[cb]?
theorem Still.kept {W' : World} (h : Still W W') (may : MemPlace → Prop) : W.keptBut W' may := by
  refine ⟨h.1, h.2.1, fun i hi => ?_⟩
  rw [h.2.2 i hi]
  split
  · rename_i c t fr c' t' fr' h1 h2
    rw [h1] at h2
    simp only [Option.some.injEq, Obj.cells.injEq] at h2
    obtain ⟨rfl, rfl, rfl⟩ := h2
    exact ⟨rfl, rfl, rfl, fun _ _ => rfl⟩
  · rename_i es c es' c' h1 h2
    rw [h1] at h2
    simp only [Option.some.injEq, Obj.map.injEq] at h2
    obtain ⟨rfl, rfl⟩ := h2
    exact .inr ⟨rfl, rfl⟩
  · rfl
theorem Still.same {W' : World} (h : Still W W') {p : MemPlace} (hp : p.block < W.heap.size) : W.sameAt W' p := by
  cases p with
  | cell b off =>
    have := h.2.2 b hp
    simp [World.sameAt, World.cell?, this]
  | map b => exact h.2.2 b hp
section
variable {H : Type} {enc : TypeId × Value → H}
theorem trodAll_still {W' : World} {sp : Nat → Bool} {hd : Bool} (hs : Still W W') : ∀ {ts : List TypeId} {vs : List Value} {ds : List (DataW H)} {ps : List MemPlace}, (∀ p ∈ ps, p.block < W.heap.size) →
    DataW.TrodAll enc P W base sp hd ts vs ds ps → DataW.TrodAll enc P W' base sp hd ts vs ds ps
  | [], [], [], _, _, h => h
  | _ :: _, _ :: _, _ :: _, _, hl, ⟨p, q, ⟨n, h1⟩, h2, e⟩ =>
    ⟨p, q, ⟨n, DataW.trod_carry n _ _ _ h1 (fun x hx => hs.same (hl x (by rw [e]; exact List.mem_append_left _ hx)))⟩, trodAll_still hs (fun x hx => hl x (by rw [e]; exact List.mem_append_right _ hx)) h2, e⟩

theorem post_true {T : TypeId → Prop} {f : Func} {s : ChangeSpec} {W' : World} {args : Array Value} {ds gs : List (DataW H)} {before : List MemPlace} {bt : TypeId} (K : Kids P T) (hz : ∀ t e, T t → P.underlying t = some (.slice e) → 0 < P.cellsOf e)
    (hT : ∀ t ∈ f.params.toList, T t) (hb : P.underlying bt = some .bool) (hrt : f.resultTypes = #[bt]) (hvars : s.vars = []) (hg : gs = [])
    (hW : DataW.Whole enc P f.params.toList s.vars false W args.toList ds gs before) (hA : DataW.TrodAll enc P W 0 (fun _ => true) true f.params.toList args.toList ds before)
    (hres : (s.fn H (ds ++ gs)).results = [.lit (.bool true)]) (hargs : (s.fn H (ds ++ gs)).args = ds) (hv : (s.fn H (ds ++ gs)).vars = []) (hs : Still W W') :
    s.post enc P f false true false false W args (.bool true) W' := by
  have hlt := DataW.TrodAll.lt hA
  subst hg
  refine ⟨ds, [], before, [], before, [], hW, ?_, ?_, ?_, hs.kept _, fun h => by cases h⟩
  · rw [hres, hrt]
    exact trodAll_mk1 (Go.RowKit.shut_bool hb true)
  · rw [hargs]
    exact trodAll_still hs hlt (DataW.TrodAll.respare K hz hT hA fun p hp => by simpa using hlt p hp)
  · rw [hv, hvars]
    exact rfl
end

/- ## the call -/
/- ## tokens: ints that are not known -/
def statMp (l : List Stat) : Mp := fun b => (l[b]?).getD .fresh
end Go.AM
end
section
/- Slices of ints as arguments: their first ones are tokens in a block that is read alone. -/
namespace Go.AM
open Go.ChangeShapes Go.WideShapes
variable {P : Program} {W : World}

end Go.AM
end
section
/- Abstract heaps that are given block by block; a call that gives true from such a heap. -/
namespace Go.AM
open Go.ChangeShapes Go.WideShapes
variable {P : Program} {W : World}

noncomputable def blkT (l : List Blk) : Trie Blk → Nat → Trie Blk := List.rec (motive := fun _ => Trie Blk → Nat → Trie Blk) (fun t _ => t) (fun b _ ih t i => ih (t.set i b) (Nat.succ i)) l
noncomputable def listHeap (l : List Blk) : Heap := ⟨blkT l .leaf 0, l.length⟩
theorem get_blkT (l : List Blk) : ∀ (t : Trie Blk) (i k : Nat), (blkT l t i).get k = if i ≤ k ∧ k < i + l.length then l[k - i]? else t.get k := by
  induction l with
  | nil =>
    intro t i k
    show t.get k = _
    rw [if_neg (by simp)]
  | cons b r ih =>
    intro t i k
    show (blkT r (t.set i b) (i + 1)).get k = _
    rw [ih, Trie.get_set]
    simp only [List.length_cons]
    by_cases h : i ≤ k ∧ k < i + (r.length + 1)
    · rw [if_pos h]
      by_cases e : k = i
      · subst e; rw [if_neg (by omega), if_pos rfl]; simp
      · rw [if_pos (by omega)]
        rw [show k - i = (k - (i + 1)) + 1 by omega, List.getElem?_cons_succ]
    · rw [if_neg h, if_neg (by omega), if_neg (by omega)]
theorem listHeap_get (l : List Blk) (k : Nat) : (listHeap l).get k = l[k]? := by
  show (blkT l .leaf 0).get k = _
  rw [get_blkT]
  by_cases h : k < l.length
  · rw [if_pos (by omega)]; simp
  · rw [if_neg (by omega), Trie.get_leaf, List.getElem?_eq_none (by omega)]
theorem listHeap_wf (l : List Blk) : HWf (listHeap l) := fun b hb => by
  have hb : l.length ≤ b := hb
  rw [listHeap_get, List.getElem?_eq_none hb]
theorem statMp_get {st : List Stat} {b : Nat} {s : Stat} (h : statMp st b = s) (hs : s ≠ .fresh) : st[b]? = some s := by
  unfold statMp at h
  cases hb : st[b]? with
  | none => rw [hb] at h; exact absurd h.symm hs
  | some s' => rw [hb] at h; rw [← h]; rfl
theorem true_callsG {cl : Caller} {ng : Nat} (hcl : CallOk P ng cl) {f : FuncId} {args args' : List Value} {H : Heap} {M : Mp} {W : World} (hwf : HWf H) (hrel : ∀ N, H.nx ≤ N → HRel M (mix H N fun _ => none) W) (hg : GlobOk ng M) (hro : ∀ b l, M b = .live l → l.rw = false)
    (hrun : isTrue (cl f args H) = true) (ha : VRels M args args') :
    Calls P f args'.toArray W fun e W' => e = .returned (.bool true) ∧ Still W W' := by
  cases hq : cl f args H with
  | none => rw [hq] at hrun; simp [isTrue] at hrun
  | some q =>
    obtain ⟨o, h'⟩ := q
    rw [hq] at hrun
    have ho : o = .ret (.bool true) := by
      unfold isTrue at hrun
      split at hrun
      · rename_i b _ heq
        simp only [Option.some.injEq, Prod.mk.injEq] at heq
        rw [heq.1, hrun]
      · simp at hrun
    subst ho
    obtain ⟨_, _, hnx, hc⟩ := hcl f args H _ h' hq hwf
    refine (hc h'.nx (fun _ => none) M W args' (Nat.le_refl _) (hrel _ hnx) hg ha).mono ?_
    rintro e W' ⟨m', ⟨v', rfl, hv⟩, _, hst⟩
    cases hv
    refine ⟨rfl, hst.os, hst.out, fun cb hcb => hst.keep cb hcb ?_⟩
    intro b l hl hrw
    rw [hro b l hl] at hrw
    cases hrw
end Go.AM
end
section
/- A listed variable that is a table of ints: what is known of its cells; its block. -/
namespace Go.AM
open Go.ChangeShapes Go.WideShapes
variable {P : Program} {W : World}

theorem laid_table {nm : String} {g t e N : Nat} {k : IntKind} {bs : List Int} (hL : laidMet P [(nm, .agg (bs.map fun b => .lit (.int k b)))] W) (hg : P.globalNamed nm = some g) (ht : (P.globals[g]?).map (·.type) = some t) (hu : P.underlying t = some (.array N e))
    (he : P.underlying e = some (.int k)) (hc : P.cellsOf e = 1) (hct : P.cellsOf t = N) (hlen : bs.length = N) :
    ∃ cs el fr, W.heap[g]? = some (.cells cs el fr) ∧ cs.size = N ∧ ∀ i, i < N → cs[i]? = (bs.map (Value.int k))[i]? := by
  obtain ⟨ps, ⟨g', t', cs, fuel, p, q, hg', ht', hv, hd, _, _⟩, _, _⟩ := hL
  obtain rfl := Option.some.inj (hg.symm.trans hg')
  obtain rfl := Option.some.inj (ht.symm.trans ht')
  obtain ⟨xs, m, _, ex, hcl, hl, hel⟩ := DataW.trod_array hu hd
  have hheap : ∃ el fr, W.heap[g]? = some (.cells cs el fr) := by
    simp only [World.var?, hg, Option.bind_some] at hv
    split at hv <;> try (simp at hv; done)
    rename_i cs' el fr hh
    simp only [Option.some.injEq] at hv
    subst hv
    exact ⟨el, fr, hh⟩
  obtain ⟨el, fr, hh⟩ := hheap
  have hsz : cs.size = N := by rw [← hct, ← hcl]; simp
  refine ⟨cs, el, fr, hh, hsz, fun i hi => ?_⟩
  have hE := hel i hi
  rw [hc, Nat.mul_one, List.getElem?_eq_getElem (by omega)] at hE
  obtain ⟨z, e1, e2, _⟩ := DataW.trod_int he hE
  have e3 : (xs.map (·.1)) = bs.map fun n => .lit (.int k n) := (DataW.agg.inj (Prod.mk.inj ex).1).symm
  have e4 : (xs.map (·.1))[i]? = (bs.map fun n => (DataW.lit (.int k n) : DataW Unit))[i]? := by rw [e3]
  rw [List.getElem?_map, List.getElem?_map, List.getElem?_eq_getElem (by omega : i < xs.length), List.getElem?_eq_getElem (by omega : i < bs.length), e2] at e4
  have hz : z = bs[i]'(by omega) := by
    simp only [Option.map_some, Option.some.injEq, DataW.lit.injEq, Lit.int.injEq, true_and] at e4
    exact e4
  rw [List.getElem?_map, List.getElem?_eq_getElem (by omega : i < bs.length), Option.map_some, ← hz]
  have h0 : ((cs.toList.drop i).take 1)[0]? = some (.int k z) := by rw [e1]; rfl
  have : cs.toList[i]? = some (.int k z) := by simpa using h0
  simpa using this

noncomputable def tabBlk (k : IntKind) (bs : List Int) : Blk := .cells (ofList (bs.map (Value.int k))) bs.length .ro
theorem tab_rel {m : Mp} {g : Nat} {k : IntKind} {bs : List Int} {cs : Array Value} {el : TypeId} {fr : Nat × Nat} (h1 : W.heap[g]? = some (.cells cs el fr)) (h2 : cs.size = bs.length) (h3 : ∀ i, i < bs.length → cs[i]? = (bs.map (Value.int k))[i]?) :
    BRel m W (.live ⟨g, 0, 0, bs.length, bs.length, false⟩) (some (tabBlk k bs)) := by
  refine ⟨rfl, cs, el, fr, h1, h2, by simp, ⟨rfl, rfl⟩, fun i hi => ?_⟩
  have h4 := h3 i hi
  rw [List.getElem?_map, List.getElem?_eq_getElem (by omega : i < bs.length), Option.map_some] at h4
  refine ⟨_, _, ?_, by rw [Nat.zero_add]; exact h4, rfl, .int _ _⟩
  rw [get_ofList, List.getElem?_map, List.getElem?_eq_getElem (by omega : i < bs.length), Option.map_some]
end Go.AM
end
section
/- Seats whose rows list a table: calls from heaps that hold the table at its place (what lies ahead of it: not looked at), then tokens. -/
namespace Go.AM
open Go.ChangeShapes Go.WideShapes
variable {P : Program} {W : World}

noncomputable def doorL (g : Nat) (k : IntKind) (bs : List Int) : List Blk := List.replicate g .dead ++ [tabBlk k bs]
end Go.AM
end
section
/- A function that defers one closure of its own, which recovers: what the two come to, by the machine. -/
namespace Go.AM
variable {P : Program} {ng : Nat}

structure TryCode where
  (fn fnd : Func)
  (r0 g rest : Code)
  (tp td tr t1 : Tmp)
  (et : TypeId)
  (z : Value)

noncomputable def tryEnd (P : Program) (T : TryCode) (cl : Caller) (fuel : Nat) (p v : Value) (h : Heap) : Option (Out × Heap) :=
  match engine P cl fuel T.rest (Env.put (Env.put (storeL .leaf 0 [p]) (some T.tr) v) (some T.t1) v) h with
  | some (.normal, _, h4) => match effLoad P T.et p h4.get with
    | some f => some (.ret f.val, h4)
    | none => none
  | _ => none
noncomputable def tryF (P : Program) (T : TryCode) (fuel : Nat) (cl : Caller) (args : List Value) (h : Heap) : Option (Out × Heap) :=
  match engine P cl fuel T.r0 (storeL .leaf 0 args) h with
  | some (.normal, e0, h0) => match engine P cl fuel T.g e0 h0 with
    | some (.ret, e1, h1) => match resultV P e1 h1 T.fn.results.toList with
      | some v => some (.ret v, h1)
      | none => none
    | some (.normal, e1, h1) => match e1.at T.td with
      | .func (.func f) first captured => match cl f (first.toList ++ captured.toList) h1 with
        | some (.ret _, h2) => match effStore P T.et (e1.at T.tp) T.z h2.get with
          | some f => tryEnd P T cl fuel (e1.at T.tp) .nilIface (h2.apply f)
          | none => none
        | some (.pan v, h2) => tryEnd P T cl fuel (e1.at T.tp) v h2
        | none => none
      | _ => none
    | _ => none
  | _ => none

theorem put_ne {a : Act} {d : Option Tmp} {v : Value} {t : Tmp} (h : d ≠ some t) : (a.put d v).tmps.getD t undef = a.tmps.getD t undef := by
  cases d with
  | none => rfl
  | some d =>
    have : d ≠ t := fun e => h (by rw [e])
    simp [Act.put, Array.getElem?_setIfInBounds_ne this]
theorem put_eq {a : Act} {d : Tmp} {v : Value} (h : d < a.tmps.size) : (a.put (some d) v).tmps.getD d undef = v := by
  simp [Act.put, h]
theorem put_size {a : Act} {d : Option Tmp} {v : Value} : (a.put d v).tmps.size = a.tmps.size := by
  cases d <;> simp [Act.put]
theorem put_def {a : Act} {d : Option Tmp} {v : Value} : (a.put d v).defers = a.defers := by
  cases d <;> rfl
theorem wanted_noneT {o : Oper} (h : o.guard = none) (f : Nat → Option Bool) : Region.wanted o f = true := by simp [Region.wanted, h]

section
variable {T : TryCode} {f fd : FuncId} {i3 i4 i5 i0 : Nat} {mk df mv cal st rc as1 : Oper} {tf t8 : Tmp} {at1 at2 at3 : Array TypeId} {cl : Caller} {fuel : Nat}

theorem tryF_ok (hm : P.follows .mixedOrders = true) (hcl : CallOk P ng cl) (hf : P.funcs[f]? = some T.fn) (hok : T.fn.name != "runtime.NumGoroutine")
    (hb : T.fn.body = some (.seq T.r0 (.seq T.g (.seq (.region i3 #[mk, df] false) (.seq (.region i4 #[mv, cal] false) (.seq (.region i5 #[st] false) .ret))))))
    (hres : T.fn.results = #[.cell T.tp T.et])
    (hmk : mk.op = .makeFunc (.func fd) #[] #[.tmp T.tp] ∧ mk.dst = some tf ∧ mk.guard = none) (hdf : df.op = .defer ⟨.value (.tmp tf), #[], at1⟩ ∧ df.dst = none ∧ df.guard = none)
    (hmv : mv.op = .move (.tmp T.td) ∧ mv.dst = some t8 ∧ mv.guard = none) (hcal : cal.op = .call ⟨.value (.tmp t8), #[], at2⟩ ∧ cal.dst ≠ some T.tp ∧ cal.guard = none)
    (hst : st.op = .store T.et (.tmp T.tp) (.const T.z) ∧ plainV T.z = true ∧ st.dst = none ∧ st.guard = none)
    (hlt : tf < T.fn.ntmps ∧ t8 < T.fn.ntmps ∧ tf ≠ T.tp ∧ t8 ≠ T.tp ∧ tf ≠ T.td)
    (hfd : P.funcs[fd]? = some T.fnd) (hokd : T.fnd.name != "runtime.NumGoroutine") (hbd : T.fnd.body = some (.seq (.region i0 #[rc, as1] false) T.rest)) (hresd : T.fnd.results = #[])
    (hrc : rc.op = .call ⟨.builtin .recover, #[], at3⟩ ∧ rc.dst = some T.tr ∧ rc.guard = none) (has : as1.op = .assign (.tmp T.tr) ∧ as1.dst = some T.t1 ∧ as1.guard = none)
    (hltd : T.tr < T.fnd.ntmps ∧ T.t1 < T.fnd.ntmps) (ok0 : codeOk ng T.fn.ntmps T.r0 = true) (okg : codeOk ng T.fn.ntmps T.g = true) (okr : codeOk ng T.fnd.ntmps T.rest = true) :
    CallOkAt P ng f (tryF P T fuel cl) := by
  have enter : ∀ {f : FuncId} {fn : Func}, P.funcs[f]? = some fn → (fn.name != "runtime.NumGoroutine") = true → (∃ c, fn.body = some c) → Enter P f := by
    intro f fn h1 h2 ⟨c, h3⟩ args w
    simp only [bne_iff_ne, ne_eq] at h2
    simp [callFunc, h1, h2, h3]
  letI i1 : Ds T.fn.ntmps := ⟨[]⟩
  letI i2 : Ds T.fnd.ntmps := ⟨[]⟩
  intro args h o h' hr hwf
  refine ⟨enter hf hok ⟨_, hb⟩, ?_⟩
  -- the way the closure ends it
  have fin : ∀ (p v : Value) (h3 : Heap), tryEnd P T cl fuel p v h3 = some (o, h') → HWf h3 → HWf h' ∧ h3.nx ≤ h'.nx ∧
      ∀ (N : Nat) (F : Nat → Option Blk) (m : Mp) (w : World) (p' v' : Value) (tmps : Array Value) (R : Ending → World → Prop) (u : FrameMode), h'.nx ≤ N → HRel m (mix h3 N F) w → GlobOk ng m → VRel m p p' → VRel m v v' →
        tmps.getD T.tp undef = p' → ((v' = .nilIface ∧ u = .returning) ∨ u = .panicking [{ v := v', recovered := false }]) →
        (∀ m' w' e, ORel m' o e → HRel m' (mix h' N F) w' → Step m w m' w' → R e w') →
        Leaves P T.fn tmps R [{ target := .fn (.func fd) #[p'], args := #[] }] u w := by
    intro p v h3 hr hwf3
    unfold tryEnd at hr
    split at hr <;> try (simp at hr; done)
    rename_i e4 h4 hrun
    split at hr <;> try (simp at hr; done)
    rename_i fl hl
    simp only [Option.some.injEq, Prod.mk.injEq] at hr
    obtain ⟨rfl, rfl⟩ := hr
    obtain ⟨a1, a2, a3⟩ := (engine_ok hm hcl fuel).1 _ _ _ _ _ _ okr hrun hwf3
    refine ⟨a1, a2, fun N F m w p' v' tmps R u hN hh hg hp hv htp hu hR => ?_⟩
    refine ⟨by rcases hu with ⟨_, rfl⟩ | rfl <;> simp, .func fd, #[p'], fd, #[p'], rfl, ?_, ?_⟩
    · show (callFunc fd (#[] ++ #[p'])).run P w = _
      rw [enter hfd hokd ⟨_, hbd⟩]
      rfl
    · refine callsD_of_wpS hfd hbd fun c₀ cs hc => ?_
      apply wpS_seq
      apply wpS_region
      have hsz : ∀ t, t < T.fnd.ntmps → t < (#[p'] ++ Array.replicate (T.fnd.ntmps - (#[p'] : Array Value).size) undef).size := by
        intro t ht
        simp
        omega
      generalize hA : ({ tmps := #[p'] ++ Array.replicate (T.fnd.ntmps - (#[p'] : Array Value).size) undef, defers := [] } : Act) = A
      have hAr : ARel m (Env.at (storeL .leaf 0 [p])) A T.fnd.ntmps := by
        rw [← hA]
        exact args_rel (args := [p]) (args' := [p']) (.cons _ _ _ _ hp .nil) T.fnd.ntmps
      have hAsz : ∀ t, t < T.fnd.ntmps → t < A.tmps.size := by rw [← hA]; exact hsz
      -- what comes behind 'recover'
      have key : ∀ cs' u', cs' = { c₀ with mode := u' } :: cs → settle u' = .returning →
          wpOpsS P #[rc, as1] (Exit.thenS (T.rest.wpS P (bodyPostS P T.fnd c₀ cs fun
            | .returned _, u', w' => Leaves P T.fn tmps R [] (settle u') w'
            | .panicked chain, u', w' => Leaves P T.fn tmps R [] (raised u' chain) w'
            | .outgrown, _, w' => R .outgrown w')) (bodyPostS P T.fnd c₀ cs fun
            | .returned _, u', w' => Leaves P T.fn tmps R [] (settle u') w'
            | .panicked chain, u', w' => Leaves P T.fn tmps R [] (raised u' chain) w'
            | .outgrown, _, w' => R .outgrown w')) [1] (A.put rc.dst v') cs' w := by
        intro cs' u' hcs hset
        have hev : (A.put rc.dst v').eval (.tmp T.tr) = v' := by
          rw [hrc.2.1]
          exact put_eq (hAsz _ hltd.1)
        have hex : (execOp (A.put rc.dst v').eval as1).run P w = .ok (.value v') w := by
          simp only [execOp, has.1, hev, Sem.run_pure]
        unfold wpOpsS
        simp only [List.getElem?_toArray, List.getElem?_cons_succ, List.getElem?_cons_zero]
        rw [if_pos (wanted_noneT has.2.2 _)]
        rw [hex]
        show T.rest.wpS P _ ((A.put rc.dst v').put as1.dst v') cs' w
        apply wpS_of_wp
        have hAr2 : ARel m (Env.at (Env.put (Env.put (storeL .leaf 0 [p]) (some T.tr) v) (some T.t1) v)) ((A.put rc.dst v').put as1.dst v') T.fnd.ntmps := by
          rw [Env.put_at, Env.put_at, hrc.2.1, has.2.1]
          refine (hAr.put hv ?_).put hv ?_
          · intro t ht; cases ht; exact hltd.1
          · intro t ht; cases ht; exact hltd.2
        refine a3 N F m w _ _ hN hh hg hAr2 ?_
        intro m' w' a' x q1 q2 q3 q4
        have : x = .normal := q4
        subst this
        refine ⟨q3.def_, u', hcs, .tuple #[], ?_, ?_⟩
        · rw [results_eq, hresd]; simp
        · show Leaves P T.fn tmps R [] (settle u') w'
          rw [hset]
          obtain ⟨v2, b1, b2⟩ := load_pure q1 a1 hN (hp.mono q2.ext) hl
          refine ⟨v2, ?_, hR m' w' _ ⟨v2, rfl, b2⟩ q1 q2⟩
          rw [results_eq, hres]
          have e1 : (#[ResultVar.cell T.tp T.et].mapM (resSem tmps)).run P w' = .ok #[v2] w' := by
            simp only [Array.mapM_eq_mapM_toList, List.mapM_cons, List.mapM_nil, resSem, htp, Sem.run_map, Sem.run_bind, b1, Result.andThen_ok, Sem.run_pure]
          simp only [Sem.run_bind, e1, Result.andThen_ok, Sem.run_pure]
          rfl
      have hex : (execOp A.eval rc).run P w = .ok .recover w := by
        simp only [execOp, hrc.1, resolve, Sem.run_bind, Sem.run_pure, Result.andThen_ok, invoke]
        rfl
      show wpOpsS P #[rc, as1] _ [0, 1] A (c₀ :: cs) w
      unfold wpOpsS
      simp only [List.getElem?_toArray, List.getElem?_cons_zero]
      rw [if_pos (wanted_noneT hrc.2.2 _)]
      rw [hex]
      rcases hu with ⟨rfl, rfl⟩ | rfl
      · have hrd : recoverD (c₀ :: cs) = none := by simp [recoverD, hc]
        simp only [hrd]
        exact key (c₀ :: cs) .returning (by cases c₀; simp_all) rfl
      · have hrd : recoverD (c₀ :: cs) = some (v', { c₀ with mode := .panicking [{ v := v', recovered := true }] } :: cs) := by simp [recoverD, hc]
        simp only [hrd]
        exact key _ (.panicking [{ v := v', recovered := true }]) rfl rfl
  -- the function itself
  unfold tryF at hr
  split at hr <;> try (simp at hr; done)
  rename_i e0 h0 hr0
  have c0 := (engine_ok hm hcl fuel).1 _ _ _ _ _ _ ok0 hr0 hwf
  obtain ⟨w0, n0, k0⟩ := c0
  split at hr <;> try (simp at hr; done)
  · -- the early end
    rename_i e1 h1 hrg
    obtain ⟨w1, n1, k1⟩ := (engine_ok hm hcl fuel).1 _ _ _ _ _ _ okg hrg w0
    split at hr <;> try (simp at hr; done)
    rename_i v hv
    simp only [Option.some.injEq, Prod.mk.injEq] at hr
    obtain ⟨rfl, rfl⟩ := hr
    refine ⟨w1, Nat.le_trans n0 n1, fun N F m w args' hN hh hg ha => calls_of_wp_defers hf hb (wp_seq ?_)⟩
    refine k0 N F m w _ _ (Nat.le_trans n1 hN) hh hg (args_rel ha _) ?_
    intro m1 x1 a1 x q1 q2 q3 q4
    have : x = .normal := q4
    subst this
    refine wp_seq ?_
    refine k1 N F m1 x1 a1 _ hN q1 (hg.mono q2.ext) q3 ?_
    intro m2 x2 a2 x p1 p2 p3 p4
    have : x = .ret := p4
    subst this
    show Leaves P T.fn a2.tmps _ a2.defers .returning x2
    rw [p3.def_]
    obtain ⟨v', r1, r2⟩ := resultV_ok p1 w1 hN p3 hv
    exact ⟨v', r1, m2, ⟨v', rfl, r2⟩, p1, q2.trans p2⟩
  · rename_i e1 h1 hrg
    obtain ⟨w1, n1, k1⟩ := (engine_ok hm hcl fuel).1 _ _ _ _ _ _ okg hrg w0
    split at hr <;> try (simp at hr; done)
    rename_i fc first captured hdo
    -- what is done up to the call, then what is known of the call
    have front : ∀ (h2 : Heap) (oc : Out), cl fc (first.toList ++ captured.toList) h1 = some (oc, h2) → HWf h2 ∧ h1.nx ≤ h2.nx ∧
        ∀ (N : Nat) (F : Nat → Option Blk) (m : Mp) (w : World) (args' : List Value) (R : Ending → World → Prop), h2.nx ≤ N → HRel m (mix h N F) w → GlobOk ng m → VRels m args args' →
          (∀ m' w' (a : Act) p', HRel m' (mix h2 N F) w' → Step m w m' w' → VRel m' (e1.at T.tp) p' → a.tmps.getD T.tp undef = p' → a.defers = [{ target := .fn (.func fd) #[p'], args := #[] }] → a.tmps.size ≥ T.fn.ntmps →
            (match oc with
              | .ret _ => (Code.seq (.region i5 #[st] false) .ret).wp P (bodyPostD P T.fn R) a w'
              | .pan v => ∀ v', VRel m' v v' → Leaves P T.fn a.tmps R a.defers (.panicking [{ v := v', recovered := false }]) w')) →
          Calls P f args'.toArray w R := by
      intro h2 oc hq
      obtain ⟨hen, w2, n2, hcall⟩ := hcl _ _ _ _ _ hq w1
      refine ⟨w2, n2, fun N F m w args' R hN hh hg ha hK => calls_of_wp_defers hf hb (wp_seq ?_)⟩
      refine k0 N F m w _ _ (by omega) hh hg (args_rel ha _) ?_
      intro m1 x1 a1 x q1 q2 q3 q4
      have : x = .normal := q4
      subst this
      refine wp_seq ?_
      refine k1 N F m1 x1 a1 _ (by omega) q1 (hg.mono q2.ext) q3 ?_
      intro m2 x2 a2 x p1 p2 p3 p4
      have : x = .normal := p4
      subst this
      have hst2 := q2.trans p2
      -- the closure is made and deferred
      refine wp_seq (wp_region ?_)
      show wpOps P #[mk, df] _ [0, 1] a2 x2
      generalize hp' : a2.tmps.getD T.tp undef = p'
      have hvp : VRel m2 (e1.at T.tp) p' := by rw [← hp']; exact p3.tm T.tp
      refine wpOps_step (o := mk) rfl (wanted_noneT hmk.2.2 _) ?_
      have e1mk : a2.eval (.tmp T.tp) = p' := hp'
      refine op_value (w' := x2) (v := .func (.func fd) #[] #[p']) ?_ ?_
      · simp [execOp, hmk.1, Instr.makeFunc, e1mk]
      refine wpOps_step (o := df) rfl (wanted_noneT hdf.2.2 _) ?_
      have hev : (a2.put mk.dst (.func (.func fd) #[] #[p'])).eval (.tmp tf) = .func (.func fd) #[] #[p'] := by
        rw [hmk.2.1]
        exact put_eq (Nat.lt_of_lt_of_le hlt.1 p3.size)
      unfold Oper.wp
      have hexd : (execOp (a2.put mk.dst (.func (.func fd) #[] #[p'])).eval df).run P x2 = .ok (.defer { target := .fn (.func fd) #[p'], args := #[] }) x2 := by
        simp [execOp, hdf.1, resolve, hev, Deferred.ofValue]
      rw [hexd]
      rw [Oper.upon_defer]
      rw [hdf.2.1, put_def, p3.def_]
      generalize hA3 : (Act.put { (a2.put mk.dst (.func (.func fd) #[] #[p'])) with defers := [{ target := .fn (.func fd) #[p'], args := #[] }] } none undef) = a3
      have t3 : ∀ t, t ≠ tf → a3.tmps.getD t undef = a2.tmps.getD t undef := by
        intro t ht
        rw [← hA3]
        show (a2.put mk.dst (.func (.func fd) #[] #[p'])).tmps.getD t undef = _
        rw [hmk.2.1]
        exact put_ne (by simpa using Ne.symm ht)
      have s3 : a3.tmps.size = a2.tmps.size := by
        rw [← hA3]
        show (a2.put mk.dst (.func (.func fd) #[] #[p'])).tmps.size = _
        exact put_size
      have d3 : a3.defers = [{ target := .fn (.func fd) #[p'], args := #[] }] := by rw [← hA3]; rfl
      -- the call
      refine wp_seq (wp_region ?_)
      show wpOps P #[mv, cal] _ [0, 1] a3 x2
      refine wpOps_step (o := mv) rfl (wanted_noneT hmv.2.2 _) ?_
      have hvd : VRel m2 (.func (.func fc) first captured) (a3.eval (.tmp T.td)) := by
        show VRel m2 _ (a3.tmps.getD T.td undef)
        rw [t3 _ (Ne.symm hlt.2.2.2.2), ← hdo]
        exact p3.tm T.td
      generalize hdv : a3.eval (.tmp T.td) = dv at hvd
      refine op_value (w' := x2) (v := dv) (by simp only [execOp, hmv.1, hdv, Sem.run_pure]) ?_
      refine wpOps_step (o := cal) rfl (wanted_noneT hcal.2.2 _) ?_
      have hev8 : (a3.put mv.dst dv).eval (.tmp t8) = dv := by
        rw [hmv.2.1]
        exact put_eq (Nat.lt_of_lt_of_le hlt.2.1 (by rw [s3]; exact p3.size))
      cases hvd with
      | func _ _ _ first' captured' g1 g2 =>
      unfold Oper.wp
      have hexc : (execOp (a3.put mv.dst (.func (.func fc) first' captured')).eval cal).run P x2 = .ok (.enter fc (first'.toList ++ captured'.toList).toArray) x2 := by
        simp only [execOp, hcal.1, resolve, hev8, Deferred.ofValue, Sem.run_bind, Sem.run_pure, Result.andThen_ok, invoke]
        rw [hen]
        congr 2
        apply Array.ext'
        simp
      rw [hexc]
      show Calls P fc _ x2 _
      refine (hcall N F m2 x2 _ hN p1 (hg.mono hst2.ext) (g1.append g2)).mono ?_
      rintro e x3 ⟨m3, ho, r1, r2⟩
      have base : ∀ a4 : Act, a4.tmps.getD T.tp undef = a3.tmps.getD T.tp undef → a4.defers = a3.defers → a4.tmps.size = a3.tmps.size → (match (generalizing := false) oc with
              | .ret _ => (Code.seq (.region i5 #[st] false) .ret).wp P (bodyPostD P T.fn R) a4 x3
              | .pan v => ∀ v', VRel m3 v v' → Leaves P T.fn a4.tmps R a4.defers (.panicking [{ v := v', recovered := false }]) x3) := by
        intro a4 z1 z2 z3
        refine hK m3 x3 a4 p' r1 (hst2.trans r2) (hvp.mono r2.ext) ?_ (by rw [z2, d3]) (by rw [z3, s3]; exact p3.size)
        rw [z1, t3 _ (Ne.symm hlt.2.2.1), hp']
      cases oc with
      | ret v =>
        obtain ⟨v', rfl, hv'⟩ := ho
        show (Code.seq (.region i5 #[st] false) .ret).wp P (bodyPostD P T.fn R) ((a3.put mv.dst _).put cal.dst v') x3
        refine base _ ?_ ?_ ?_
        · rw [put_ne hcal.2.1, put_ne (by rw [hmv.2.1]; simpa using hlt.2.2.2.1)]
        · rw [put_def, put_def]
        · rw [put_size, put_size]
      | pan v =>
        obtain ⟨v', rfl, hv'⟩ := ho
        show Leaves P T.fn (a3.put mv.dst _).tmps R (a3.put mv.dst _).defers (.panicking [{ v := v', recovered := false }]) x3
        exact base (a3.put mv.dst _) (put_ne (by rw [hmv.2.1]; simpa using hlt.2.2.2.1)) put_def put_size v' hv'
    split at hr <;> try (simp at hr; done)
    · -- it returned
      rename_i vr h2 hq
      obtain ⟨w2, n2, hfront⟩ := front _ _ hq
      split at hr <;> try (simp at hr; done)
      rename_i fs hfs
      have hap := HWf.apply w2 (f := fs) (eff_ok (op := .store T.et (.tmp T.tp) (.const T.z)) (ρ := fun y => match y with | .tmp t => e1.at t | .const v => v | .global g => .pointer (some ⟨g, 0, none⟩) | .func f => .func (.func f) #[] #[]) (nx := h2.nx) hfs)
      obtain ⟨w3, n3, hfin⟩ := fin _ _ _ hr hap.1
      refine ⟨w3, by omega, fun N F m w args' hN hh hg ha => hfront N F m w args' _ (by omega) hh hg ha ?_⟩
      intro m2 x2 a p' b1 b2 b3 b4 b5 b6
      show (Code.seq (.region i5 #[st] false) .ret).wp P _ a x2
      refine wp_seq (wp_region ?_)
      show wpOps P #[st] _ [0] a x2
      refine wpOps_step (o := st) rfl (wanted_noneT hst.2.2.2 _) ?_
      have heff : eff P st.op (fun y => match y with | .tmp t => e1.at t | .const v => v | .global g => .pointer (some ⟨g, 0, none⟩) | .func f => .func (.func f) #[] #[]) h2.get h2.nx = some fs := by
        rw [hst.1]; exact hfs
      obtain ⟨r, x3, m3, v3, g1, g2, g3, g4, g5⟩ := eff_does (ρ' := a.eval) b1 w2 (by omega) (by omega) (by
        rw [hst.1]
        intro y hy
        simp only [Op.operands] at hy
        rcases List.mem_cons.1 hy with rfl | hy
        · show VRel m2 (e1.at T.tp) (a.tmps.getD T.tp undef)
          rw [b4]; exact b3
        · rcases List.mem_cons.1 hy with rfl | hy
          · exact plainV_rel hst.2.1
          · simp at hy) heff
      have fin2 : ∀ v3', wpOps P #[st] (Exit.then (Code.ret.wp P (bodyPostD P T.fn fun e w' => ∃ m', ORel m' o e ∧ HRel m' (mix h' N F) w' ∧ Step m w m' w')) (bodyPostD P T.fn fun e w' => ∃ m', ORel m' o e ∧ HRel m' (mix h' N F) w' ∧ Step m w m' w')) [] (a.put st.dst v3') x3 := by
        intro v3'
        show Code.ret.wp P _ (a.put st.dst v3') x3
        refine wp_ret ?_
        show Leaves P T.fn (a.put st.dst v3').tmps _ (a.put st.dst v3').defers .returning x3
        rw [put_def, b5]
        refine hfin N F m3 x3 p' .nilIface _ _ .returning hN g4 (hg.mono (b2.trans g5).ext) (b3.mono g5.ext) .nilIface (by rw [put_ne (by rw [hst.2.2.1]; simp)]; exact b4) (.inl ⟨rfl, rfl⟩) ?_
        intro m4 x4 e u1 u2 u3
        exact ⟨m4, u1, u2, (b2.trans g5).trans u3⟩
      unfold Oper.wp
      rw [g1]
      rcases g2 with rfl | ⟨rfl, rfl⟩
      · exact fin2 _
      · exact fin2 _
    · -- it panicked
      rename_i vp h2 hq
      obtain ⟨w2, n2, hfront⟩ := front _ _ hq
      obtain ⟨w3, n3, hfin⟩ := fin _ _ _ hr w2
      refine ⟨w3, by omega, fun N F m w args' hN hh hg ha => hfront N F m w args' _ (by omega) hh hg ha ?_⟩
      intro m2 x2 a p' b1 b2 b3 b4 b5 b6
      show ∀ v', VRel m2 vp v' → Leaves P T.fn a.tmps _ a.defers (.panicking [{ v := v', recovered := false }]) x2
      intro v' hv'
      rw [b5]
      refine hfin N F m2 x2 p' v' _ _ _ hN b1 (hg.mono b2.ext) b3 hv' b4 (.inr rfl) ?_
      intro m4 x4 e u1 u2 u3
      exact ⟨m4, u1, u2, b2.trans u3⟩
end
/- ## taken from the functions' texts -/
def seqL : Code → Code
  | .seq a _ => a
  | c => c
def seqR : Code → Code
  | .seq _ b => b
  | c => c
def opOf : Code → Nat → Oper
  | .region _ ops _, i => (ops.toList[i]?).getD { dst := none, op := .ready 0, type := 0, pos := "", after := #[], guard := none }
  | _, _ => { dst := none, op := .ready 0, type := 0, pos := "", after := #[], guard := none }
def bodyOf (f : Func) : Code := match f.body with
  | some c => c
  | none => .skip
def oneSpec (f0 : FuncId) (F : Caller → List Value → Heap → Option (Out × Heap)) : Special := fun f => cond (Nat.beq f f0) (some F) none
theorem oneSpec_ok {f0 : FuncId} {F : Caller → List Value → Heap → Option (Out × Heap)} (h : ∀ cl, CallOk P ng cl → CallOkAt P ng f0 (F cl)) : SpecOk P ng (oneSpec f0 F) := by
  intro f G hG cl hcl
  unfold oneSpec at hG
  cases hb : Nat.beq f f0 with
  | false => rw [hb] at hG; simp at hG
  | true =>
    rw [hb] at hG
    simp only [cond_true, Option.some.injEq] at hG
    subst hG
    have := Nat.eq_of_beq_eq_true hb
    subst this
    exact h cl hcl
end Go.AM
end
section
/- A function that defers one closure which recovers, in walks: what it comes to if its pieces come to what is said. No condition. -/
namespace Go.AM
variable {P : Program} {ng : Nat} {sp : Special}
end Go.AM
end
section
/- A call without arguments that gave true in a run of its own: a special for it, in a seat whose rows list a table. -/
namespace Go.AM
variable {P : Program}

noncomputable def trueF (g : Nat) (k : IntKind) (bs : List Int) (_ : Caller) (args : List Value) (h : Heap) : Option (Out × Heap) :=
  match args with
  | [] => cond (beqB (h.get g) (some (tabBlk k bs))) (some (.ret (.bool true), h)) none
  | _ => none
def orSpec (a b : Special) : Special := fun f => match a f with
  | some F => some F
  | none => b f
theorem orSpec_ok {ng : Nat} {a b : Special} (ha : SpecOk P ng a) (hb : SpecOk P ng b) : SpecOk P ng (orSpec a b) := by
  intro f G hG cl hcl
  unfold orSpec at hG
  split at hG
  · rename_i F hF
    simp only [Option.some.injEq] at hG
    subst hG
    exact ha f F hF cl hcl
  · exact hb f G hG cl hcl

theorem trueF_ok {g : Nat} {k : IntKind} {bs : List Int} {cl0 : Caller} (hcl0 : CallOk P (g + 1) cl0) {f : FuncId} (hrun : isTrue (cl0 f [] (listHeap (doorL g k bs ++ []))) = true) (cl : Caller) : CallOkAt P (g + 1) f (trueF g k bs cl) := by
  cases hq : cl0 f [] (listHeap (doorL g k bs ++ [])) with
  | none => rw [hq] at hrun; simp [isTrue] at hrun
  | some q =>
    obtain ⟨o0, h0⟩ := q
    rw [hq] at hrun
    have ho : o0 = .ret (.bool true) := by
      unfold isTrue at hrun
      split at hrun
      · rename_i b _ heq
        simp only [Option.some.injEq, Prod.mk.injEq] at heq
        rw [heq.1, hrun]
      · simp at hrun
    subst ho
    obtain ⟨hen, _, hnx, hc⟩ := hcl0 f [] _ _ h0 hq (listHeap_wf _)
    intro args h o h' hr hwf
    unfold trueF at hr
    split at hr <;> try (simp at hr; done)
    cases hb : beqB (h.get g) (some (tabBlk k bs)) with
    | false => rw [hb] at hr; simp at hr
    | true =>
      rw [hb] at hr
      simp only [cond_true, Option.some.injEq, Prod.mk.injEq] at hr
      obtain ⟨rfl, rfl⟩ := hr
      have hg := beqB_eq hb
      refine ⟨hen, hwf, Nat.le_refl _, fun N F m w args' hN hh hgl ha => ?_⟩
      cases ha
      have hbr := hh.at hwf hN hg
      -- the table's place
      obtain ⟨l, hm, hl1, hl2, hl3⟩ : ∃ l, m g = .live l ∧ l.cb = g ∧ l.sh = 0 ∧ l.rw = false := by
        rcases hgl g (Nat.lt_succ_self g) with ⟨l, h1, h2, h3, h4⟩ | h1
        · exact ⟨l, h1, h2, h3, h4⟩
        · rw [h1] at hbr; exact hbr.elim
      rw [hm] at hbr
      obtain ⟨b1, c, el, fr, b2, b3, b4, b5, b6⟩ := hbr
      let M0 : Mp := fun b => if b < g then .dead else if b = g then .live l else .fresh
      have hM : ∀ b l', M0 b = .live l' → b = g ∧ l' = l := by
        intro b l' hb'
        by_cases h1 : b < g
        · simp only [M0, if_pos h1] at hb'; cases hb'
        · by_cases h2 : b = g
          · simp only [M0, if_neg h1, if_pos h2] at hb'; cases hb'; exact ⟨h2, rfl⟩
          · simp only [M0, if_neg h1, if_neg h2] at hb'; cases hb'
      have hMg : M0 g = .live l := by simp [M0]
      have hrel : HRel M0 (mix (listHeap (doorL g k bs ++ [])) h0.nx fun _ => none) w := by
        refine ⟨fun b => ?_, fun b b' l1 l2 h1 h2 _ _ => by rw [(hM b l1 h1).1, (hM b' l2 h2).1]⟩
        have hlen : (doorL g k bs ++ []).length = g + 1 := by simp [doorL]
        have hnx' : g + 1 ≤ h0.nx := by rw [← hlen]; exact hnx
        unfold mix
        rw [listHeap_get]
        by_cases h1 : b < g
        · have e : (doorL g k bs ++ [])[b]? = some .dead := by
            rw [List.append_nil]; unfold doorL
            rw [List.getElem?_append_left (by simpa using h1), List.getElem?_replicate, if_pos h1]
          rw [if_pos (by omega), e]
          simp only [M0, if_pos h1]
          trivial
        · by_cases h2 : b = g
          · subst h2
            have e : (doorL b k bs ++ [])[b]? = some (tabBlk k bs) := by
              rw [List.append_nil]; unfold doorL
              rw [List.getElem?_append_right (by simp)]
              simp
            rw [if_pos (by omega), e, hMg]
            refine ⟨b1, c, el, fr, b2, b3, b4, b5, fun i hi => ?_⟩
            obtain ⟨v, v', a1, a2, a3, a4⟩ := b6 i hi
            refine ⟨v, v', a1, a2, a3, ?_⟩
            rw [get_ofList, List.getElem?_map, List.getElem?_eq_getElem hi, Option.map_some] at a1
            simp only [Option.some.injEq] at a1
            subst a1
            cases a4
            exact .int _ _
          · have e : (doorL g k bs ++ [])[b]? = none := List.getElem?_eq_none (by rw [hlen]; omega)
            rw [e]
            simp only [M0, if_neg h1, if_neg h2]
            split <;> trivial
      refine (hc h0.nx (fun _ => none) M0 w [] (Nat.le_refl _) hrel ?_ .nil).mono ?_
      · intro x hx
        by_cases h1 : x < g
        · exact .inr (by simp [M0, h1])
        · have : x = g := by omega
          subst this
          exact .inl ⟨l, hMg, hl1, hl2, hl3⟩
      · rintro e w' ⟨m', ⟨v', rfl, hv⟩, _, hst⟩
        cases hv
        have hkeep : ∀ cb, cb < w.heap.size → w'.heap[cb]? = w.heap[cb]? := fun cb hcb => hst.keep cb hcb fun b l' hl' hrw => by
          rw [(hM b l' hl').2, hl3] at hrw; cases hrw
        refine ⟨m, ⟨_, rfl, .bool true⟩, ⟨fun b => (hh.blk b).mono (.refl m) fun l' hl' => hkeep _ (hh.lt hl'), hh.inj⟩, ?_⟩
        exact ⟨.refl m, hst.size, hst.os, hst.out, fun cb hcb _ => hkeep cb hcb, fun b l' hl' hr' => .inr ⟨b, l', hl', hr', rfl⟩, fun b l' hl' _ => hl'⟩
end Go.AM
end
section
/- A call without arguments that gave true in a run of its own: a special for it, where no globals are named. -/
namespace Go.AM
variable {P : Program}
end Go.AM
end
section
/- From a walk to the model: laws whose arguments are read alone. Conditions: each block of the abstract heap stands for what the arguments hold. -/
namespace Go.AM
open Go.ChangeShapes Go.WideShapes
variable {P : Program} {W : World}
theorem list_rel2 {l : List Blk} {st : List AM.Stat} (hlen : st.length = l.length) (hb : ∀ (i : Nat) (s : AM.Stat) (b : Blk), st[i]? = some s → l[i]? = some b → BRel (statMp st) W s (some b))
    (hro : ∀ (i : Nat) (l1 : Loc) (b : Blk), st[i]? = some (.live l1) → l[i]? = some b → roB (some b) = true) (N : Nat) (hN : l.length ≤ N) : HRel (statMp st) (mix (listHeap l) N fun _ => none) W := by
  have key : ∀ b, mix (listHeap l) N (fun _ => none) b = l[b]? := by
    intro b
    unfold mix
    rw [listHeap_get]
    by_cases h : b < l.length
    · rw [if_pos (by omega)]
    · rw [List.getElem?_eq_none (by omega)]
      split <;> rfl
  refine ⟨fun b => ?_, fun b b' l1 l2 h1 h2 e hq => ?_⟩
  · rw [key]
    by_cases h : b < l.length
    · have h1 : st[b]? = some (st[b]'(by omega)) := List.getElem?_eq_getElem _
      have h2 : l[b]? = some (l[b]'h) := List.getElem?_eq_getElem _
      have : statMp st b = st[b]'(by omega) := by unfold statMp; rw [h1]; rfl
      rw [this, h2]
      exact hb b _ _ h1 h2
    · have : statMp st b = .fresh := by unfold statMp; rw [List.getElem?_eq_none (by omega)]; rfl
      rw [this, List.getElem?_eq_none (by omega)]
      trivial
  · rw [key] at hq
    have h1' := statMp_get h1 (by simp)
    have hb' : b < st.length := (List.getElem?_eq_some_iff.1 h1').1
    rw [hlen] at hb'
    have h2' : l[b]? = some (l[b]'hb') := List.getElem?_eq_getElem _
    rw [h2', hro b l1 _ h1' h2'] at hq
    cases hq
theorem wf_list {ng : Nat} {sp : Special} (hm : P.follows .mixedOrders = true) (hsp : SpecOk P ng sp) {f : FuncId} {args args' : List Value} {l : List Blk} {st : List AM.Stat} (hlen : st.length = l.length) (hb : ∀ (i : Nat) (s : AM.Stat) (b : Blk), st[i]? = some s → l[i]? = some b → BRel (statMp st) W s (some b))
    (hro : ∀ (i : Nat) (l1 : Loc) (b : Blk), st[i]? = some (.live l1) → l[i]? = some b → roB (some b) = true ∧ l1.rw = false) (hg : GlobOk ng (statMp st))
    (hw : WF P ng sp f args (listHeap l) fun o _ => o = .ret (.bool true)) (ha : VRels (statMp st) args args') : Calls P f args'.toArray W fun e W' => e = .returned (.bool true) ∧ Still W W' := by
  obtain ⟨o, h', ⟨N, hN⟩, rfl⟩ := hw
  refine true_callsG (acall_ok hm hsp N N) (listHeap_wf l) (fun N hN => list_rel2 hlen hb (fun i l1 b h1 h2 => (hro i l1 b h1 h2).1) N hN) hg ?_ (by rw [hN N N (Nat.le_refl _) (Nat.le_refl _)]; rfl) ha
  intro b l1 h1
  have h1' := statMp_get h1 (by simp)
  have hb' : b < st.length := (List.getElem?_eq_some_iff.1 h1').1
  rw [hlen] at hb'
  exact (hro b l1 _ h1' (List.getElem?_eq_getElem hb')).2

end Go.AM
end
section
/- copy, laid out for rewriting. Conditions: the rows that are named. -/
namespace Go.AM
variable {P : Program}
noncomputable def bsX (len nx : Nat) (x : Option (List Value)) : Option Eff := match x with
  | some cells => some ⟨.slice (some ⟨nx, 0, none⟩) len len, [], [cellsB cells .exact]⟩
  | none => none
theorem u_buildSlice (t : TypeId) (len nx : Nat) (parts : List (Nat × Value)) {z : List Value} {s mb : Nat} (h : mkOf P t = some (z, s, mb)) (hl : len * s ≤ 1048576) :
    effBuildSlice P t len parts nx = bsX len nx (fillL (fun i => some (i * s, s)) (repeatL z len) parts) := by
  unfold effBuildSlice
  unfold mkOf at h
  split at h <;> try (simp at h; done)
  rename_i e he
  split at h <;> try (simp at h; done)
  rename_i i z' hi hz
  split at h <;> try (simp at h; done)
  rename_i hz2
  simp only [Option.some.injEq, Prod.mk.injEq] at h
  obtain ⟨rfl, rfl, rfl⟩ := h
  rw [he]
  simp only [sizeOf?, hi, Option.map_some, hz]
  rw [if_neg (by omega)]
  cases fillL (fun j => some (j * i.size, i.size)) (repeatL z' len) parts <;> rfl
end Go.AM
end
section
/- Code whose outcome is open: what it may come to; loops over maps in any order. Conditions: as each rule says. -/
set_option linter.unusedSectionVars false
namespace Go.AM
variable {P : Program} {ng nt : Nat} [Ds nt] {sp : Special} {c : Code} {e : Env} {h : Heap} {Q Q1 : AExit → Env → Heap → Prop}

theorem mix_none {h : Heap} (hwf : HWf h) {N : Nat} (hN : h.nx ≤ N) : mix h N (fun _ => none) = h.get := by
  funext b
  unfold mix
  by_cases hb : b < N
  · rw [if_pos hb]
  · rw [if_neg hb, hwf b (by omega)]

def Land (nt : Nat) [Ds nt] (m : Mp) (w : World) (Q : AExit → Env → Heap → Prop) : Exit → Act → World → Prop := fun x a' w' =>
  ∃ ex e' h' m', Q ex e' h' ∧ HWf h' ∧ HRel m' h'.get w' ∧ Step m w m' w' ∧ ARel m' e'.at a' nt ∧ XRel m' ex x
theorem Land.trans {m m' : Mp} {w w' w'' : World} {x : Exit} {a : Act} (hs : Step m w m' w') (hl : Land nt m' w' Q x a w'') : Land nt m w Q x a w'' := by
  obtain ⟨ex, e', h', m2, q, hw, hh, hs2, hr, hx⟩ := hl
  exact ⟨ex, e', h', m2, q, hw, hh, hs.trans hs2, hr, hx⟩
def Good (P : Program) (ng nt : Nat) [Ds nt] (c : Code) (e : Env) (h : Heap) (Q : AExit → Env → Heap → Prop) : Prop :=
  HWf h → ∀ m w a, HRel m h.get w → GlobOk ng m → ARel m e.at a nt → c.wp P (Land nt m w Q) a w
theorem Good.mono (hg : Good P ng nt c e h Q1) (hq : ∀ ex e' h', Q1 ex e' h' → Q ex e' h') : Good P ng nt c e h Q := fun hwf m w a hh hgl hr =>
  wp_mono (hg hwf m w a hh hgl hr) fun _ _ _ ⟨ex, e', h', m', q, r⟩ => ⟨ex, e', h', m', hq _ _ _ q, r⟩
theorem Good.seq {c1 c2 : Code} (h1 : Good P ng nt c1 e h fun ex e' h' => (ex = .normal → Good P ng nt c2 e' h' Q) ∧ (ex ≠ .normal → Q ex e' h')) : Good P ng nt (.seq c1 c2) e h Q := by
  intro hwf m w a hh hg hr
  refine wp_seq (wp_mono (h1 hwf m w a hh hg hr) ?_)
  rintro x a' w' ⟨ex, e', h', m', ⟨qn, qx⟩, hwf', hh', hs, hr', hx⟩
  by_cases hn : ex = .normal
  · subst hn
    have : x = .normal := hx
    subst this
    exact wp_mono (qn rfl hwf' m' w' a' hh' (hg.mono hs.ext) hr') fun _ _ _ hl => hl.trans hs
  · exact then_of_not (hx.not_normal hn) ⟨ex, e', h', m', qx hn, hwf', hh', hs, hr', hx⟩
def leave (id : Nat) : AExit → AExit
  | .exit i => if i = id then .normal else .exit i
  | x => x
theorem Good.block {id : Nat} (hc : Good P ng nt c e h fun ex e' h' => Q (leave id ex) e' h') : Good P ng nt (.block id c) e h Q := by
  intro hwf m w a hh hg hr
  refine wp_block (wp_mono (hc hwf m w a hh hg hr) ?_)
  rintro x a' w' ⟨ex, e', h', m', q, hwf', hh', hs, hr', hx⟩
  cases ex with
  | exit i =>
    have : x = .exit i := hx
    subst this
    unfold Exit.inBlock
    by_cases e : i = id
    · simp only [if_pos e]
      simp only [leave, if_pos e] at q
      exact ⟨.normal, e', h', m', q, hwf', hh', hs, hr', rfl⟩
    · simp only [if_neg e]
      simp only [leave, if_neg e] at q
      exact ⟨.exit i, e', h', m', q, hwf', hh', hs, hr', rfl⟩
  | normal => have : x = .normal := hx; subst this; exact ⟨.normal, e', h', m', q, hwf', hh', hs, hr', rfl⟩
  | ret => have : x = .ret := hx; subst this; exact ⟨.ret, e', h', m', q, hwf', hh', hs, hr', rfl⟩
  | goto l => have : x = .goto l := hx; subst this; exact ⟨.goto l, e', h', m', q, hwf', hh', hs, hr', rfl⟩
  | pan v =>
    obtain ⟨v', e, hv⟩ := (hx : ∃ v', x = .panic [{ v := v', recovered := false }] ∧ VRel m' v v')
    subst e
    exact ⟨.pan v, e', h', m', q, hwf', hh', hs, hr', v', rfl, hv⟩
theorem Good.cond {x : Operand} {c1 c2 : Code} {t : Bool} (hx : operOk ng x = true) (ht : e.eval x = .bool t) (hc : Good P ng nt (bif t then c1 else c2) e h Q) : Good P ng nt (.cond x c1 c2) e h Q := by
  intro hwf m w a hh hg hr
  have hev := hr.eval hg hx
  rw [← Env.eval_eq, ht] at hev
  generalize hv : a.eval x = v at hev
  cases hev
  refine wp_cond hv ?_
  have := hc hwf m w a hh hg hr
  cases t <;> exact this
theorem Good.loop {n : Nat} (I : Nat → Env → Heap → Prop) (step : ∀ n e h, I n e h → Good P ng nt c e h fun ex e' h' => (ex = .normal ∧ ∃ k, k < n ∧ I k e' h') ∨ (ex ≠ .normal ∧ Q ex e' h')) (h0 : I n e h) : Good P ng nt (.loop c) e h Q := by
  intro hwf m w a hh hg hr
  have key : ∀ N n, n < N → ∀ e h, I n e h → HWf h → ∀ m1 w1 a1, Step m w m1 w1 → HRel m1 h.get w1 → ARel m1 e.at a1 nt → Code.rounds P c (Land nt m w Q) N a1 w1 := by
    intro N
    induction N with
    | zero => intro n hn; omega
    | succ N ih =>
      intro n hn e h hI hwf m1 w1 a1 hs hh hr
      rw [rounds_succ]
      refine wp_mono (step n e h hI hwf m1 w1 a1 hh (hg.mono hs.ext) hr) ?_
      rintro x a' w' ⟨ex, e', h', m', q, hwf', hh', hs', hr', hx⟩
      rcases q with ⟨rfl, k, hk, hI'⟩ | ⟨hne, hq⟩
      · have : x = .normal := hx
        subst this
        exact ih k (by omega) e' h' hI' hwf' m' w' a' (hs.trans hs') hh' hr'
      · exact then_of_not (hx.not_normal hne) ⟨ex, e', h', m', hq, hwf', hh', hs.trans hs', hr', hx⟩
  exact wp_loop_rounds (n + 1) (key (n + 1) n (Nat.lt_succ_self n) e h h0 hwf m w a (.refl m w) hh hr)

/- ## Functions -/
def WFS (P : Program) (ng : Nat) (f : FuncId) (args : List Value) (h : Heap) (R : Out → Heap → Prop) : Prop :=
  HWf h → Enter P f ∧ ∀ m w args', HRel m h.get w → GlobOk ng m → VRels m args args' → Calls P f args'.toArray w fun e w' => ∃ o h' m', R o h' ∧ HWf h' ∧ ORel m' o e ∧ HRel m' h'.get w' ∧ Step m w m' w'
theorem WFS.fn {f : FuncId} {fn : Func} {c : Code} {args : List Value} {R : Out → Heap → Prop} (hf : P.funcs[f]? = some fn) (hok : fnOk ng fn = true) (hc : fn.body = some c) (hr : @Good P ng fn.ntmps ⟨[]⟩ c (storeL .leaf 0 args) h (FnQ P fn.results.toList R)) : WFS P ng f args h R := by
  intro hwf
  obtain ⟨hen, c', hc', hcok⟩ := enter_of_ok hf hok
  letI : Ds fn.ntmps := ⟨[]⟩
  refine ⟨hen, fun m w args' hh hg ha => calls_of_wp hf hc (wp_mono (hr hwf m w _ hh hg (args_rel ha _)) ?_)⟩
  rintro x a' w' ⟨ex, e', h', m', q, hwf', hh', hs, hr', hx⟩
  have hh2 : HRel m' (mix h' h'.nx fun _ => none) w' := by rw [mix_none hwf' (Nat.le_refl _)]; exact hh'
  cases ex with
  | normal =>
    have : x = .normal := hx
    subst this
    obtain ⟨v, hv, hR⟩ := (q : ∃ v, resultV P e' h' fn.results.toList = some v ∧ R (.ret v) h')
    obtain ⟨v', r1, r2⟩ := resultV_ok hh2 hwf' (Nat.le_refl _) hr' hv
    exact ⟨hr'.def_, v', r1, .ret v, h', m', hR, hwf', ⟨v', rfl, r2⟩, hh', hs⟩
  | ret =>
    have : x = .ret := hx
    subst this
    obtain ⟨v, hv, hR⟩ := (q : ∃ v, resultV P e' h' fn.results.toList = some v ∧ R (.ret v) h')
    obtain ⟨v', r1, r2⟩ := resultV_ok hh2 hwf' (Nat.le_refl _) hr' hv
    exact ⟨hr'.def_, v', r1, .ret v, h', m', hR, hwf', ⟨v', rfl, r2⟩, hh', hs⟩
  | pan v =>
    obtain ⟨v', e, hv⟩ := (hx : ∃ v', x = .panic [{ v := v', recovered := false }] ∧ VRel m' v v')
    subst e
    exact ⟨hr'.def_, .pan v, h', m', q, hwf', ⟨v', rfl, hv⟩, hh', hs⟩
  | exit i => exact q.elim
  | goto l => exact q.elim

/- ## Regions with such calls -/
def GoodO (P : Program) (ng nt : Nat) [Ds nt] (all l : List Oper) (e : Env) (h : Heap) (Q : AExit → Env → Heap → Prop) : Prop :=
  HWf h → ∀ k, (∀ j, j < l.length → l[j]? = all[k + j]?) → l.all (opersOk ng nt) = true → ∀ m w a, HRel m h.get w → GlobOk ng m → ARel m e.at a nt → wpOps P all.toArray (Land nt m w Q) (List.range' k l.length) a w
theorem Good.region {id : Nat} {ops : Array Oper} (hok : codeOk ng nt (.region id ops false) = true) (hg : GoodO P ng nt ops.toList ops.toList e h Q) : Good P ng nt (.region id ops false) e h Q := by
  intro hwf m w a hh hgl hr
  have := hg hwf 0 (fun j _ => by simp) hok m w a hh hgl hr
  refine wp_region ?_
  rwa [Array.toArray_toList, Array.length_toList, ← List.range_eq_range'] at this
theorem upon_then {o : Oper} {a : Act} {next K : Act → World → Prop} {Q : Exit → Act → World → Prop} (r : Result Next) : o.upon P a next (Exit.then K Q) r = o.upon P a next Q r := by
  cases r with
  | ok n w' => cases n <;> rfl
  | halt x w' => cases x <;> rfl
theorem wpOps_app {ops : Array Oper} {Q : Exit → Act → World → Prop} {r2 : List Nat} : ∀ (r1 : List Nat) (a : Act) (w : World), wpOps P ops (Exit.then (fun a w => wpOps P ops Q r2 a w) Q) r1 a w → wpOps P ops Q (r1 ++ r2) a w := by
  intro r1
  induction r1 with
  | nil => intro a w h; exact h
  | cons i r1 ih =>
    intro a w h
    simp only [List.cons_append, wpOps] at h ⊢
    cases ho : ops[i]? with
    | none => rw [ho] at h; exact ih a w h
    | some o =>
      rw [ho] at h
      simp only at h ⊢
      split
      · rename_i hw
        rw [if_pos hw] at h
        refine h.imp (fun h => ?_) (fun h => h)
        unfold Oper.wp at h
        rw [upon_then] at h
        exact Oper.wp_mono (fun a w => ih a w) h
      · rename_i hw
        rw [if_neg hw] at h
        exact ih _ _ h
theorem upon_mono {o : Oper} {a : Act} {K K' : Act → World → Prop} {Q Q' : Exit → Act → World → Prop} (hk : ∀ a w, K a w → K' a w) (hq : ∀ x a w, Q x a w → Q' x a w) (r : Result Next) (h : o.upon P a K Q r) : o.upon P a K' Q' r := by
  cases r with
  | ok n w' =>
    cases n <;> simp only [Oper.upon] at h ⊢ <;>
      first
        | exact hk _ _ h
        | exact Calls.mono h (fun e w'' he => by cases e <;> first | exact hk _ _ he | exact hq _ _ _ he | exact he.imp fun _ he => he.imp fun _ he => hq _ _ _ he)
        | exact Rows.mono h (fun _ _ he => hk _ _ he)
  | halt x w' => cases x <;> simp only [Oper.upon] at h ⊢ <;> first | exact hq _ _ _ h | exact h
theorem wpOps_mono {ops : Array Oper} {Q Q' : Exit → Act → World → Prop} (hq : ∀ x a w, Q x a w → Q' x a w) : ∀ (l : List Nat) (a : Act) (w : World), wpOps P ops Q l a w → wpOps P ops Q' l a w := by
  intro l
  induction l with
  | nil => intro a w2 h; exact hq _ _ _ h
  | cons i r ih =>
    intro a w2 h
    simp only [wpOps] at h ⊢
    cases ho : ops[i]? with
    | none => rw [ho] at h; exact ih a w2 h
    | some o =>
      rw [ho] at h
      simp only at h ⊢
      split
      · rename_i hw
        rw [if_pos hw] at h
        exact h.imp (fun h => upon_mono (fun a w => ih a w) hq _ h) (fun h => ⟨h.1, h.2.imp fun _ he => he.imp fun _ he => hq _ _ _ he⟩)
      · rename_i hw
        rw [if_neg hw] at h
        exact ih _ _ h
theorem wpOps_land {m m' : Mp} {w w' : World} {ops : Array Oper} (hs : Step m w m' w') (l : List Nat) (a : Act) (w2 : World) (h : wpOps P ops (Land nt m' w' Q) l a w2) : wpOps P ops (Land nt m w Q) l a w2 :=
  wpOps_mono (fun _ _ _ hl => hl.trans hs) l a w2 h
theorem GoodO.take (n : Nat) {all l : List Oper} (hm : P.follows .mixedOrders = true) (hsp : SpecOk P ng sp)
    (hr : Run P ng sp (fun ex e' h' => (ex = .normal → GoodO P ng nt all (l.drop n) e' h' Q) ∧ (ex ≠ .normal → Q ex e' h')) [] (.ops all (l.take n)) e h) : GoodO P ng nt all l e h Q := by
  obtain ⟨ex, e', h', ⟨N, hN⟩, hx⟩ := hr.sem
  obtain ⟨hxn, hxx⟩ : (ex = .normal → GoodO P ng nt all (l.drop n) e' h' Q) ∧ (ex ≠ .normal → Q ex e' h') := hx
  have hrun := hN N N (Nat.le_refl _) (Nat.le_refl _)
  intro hwf k hl hok m w a hh hg hr
  have hsplit : List.range' k l.length = List.range' k (l.take n).length ++ List.range' (k + (l.take n).length) (l.drop n).length := by
    rw [List.range'_append_1, ← List.length_append, List.take_append_drop]
  rw [hsplit]
  refine wpOps_app _ _ _ ?_
  have hok1 : (l.take n).all (opersOk ng nt) = true := by
    rw [List.all_eq_true] at hok ⊢
    exact fun x hx => hok x (List.mem_of_mem_take hx)
  have hok2 : (l.drop n).all (opersOk ng nt) = true := by
    rw [List.all_eq_true] at hok ⊢
    exact fun x hx => hok x (List.mem_of_mem_drop hx)
  obtain ⟨g1, g2, g3⟩ := ops_wp (acall_ok hm hsp N N) all.toArray (l.take n) k e e' h h' ex (fun j hj => by
    have hj : j < n ∧ j < l.length := by rw [List.length_take] at hj; omega
    rw [List.getElem?_take, if_pos hj.1]
    exact hl j hj.2) hok1 hwf hrun
  refine g3 h'.nx (fun _ => none) m w a _ (Nat.le_refl _) (by rw [mix_none hwf g2]; exact hh) hg hr ?_
  intro m' w' a' x q1 q2 q3 q4
  rw [mix_none g1 (Nat.le_refl _)] at q1
  by_cases hn : ex = .normal
  · subst hn
    have : x = .normal := q4
    subst this
    have := hxn rfl g1 (k + (l.take n).length) (fun j hj => by
      have hj : j < l.length - n := by simpa using hj
      rw [List.getElem?_drop, List.length_take, show min n l.length = n by omega, Nat.add_assoc]
      exact hl (n + j) (by omega)) hok2 m' w' a' q1 (hg.mono q2.ext) q3
    exact wpOps_land q2 _ _ _ this
  · exact then_of_not (q4.not_normal hn) ⟨ex, e', h', m', hxx hn, g1, q1, q2, q3, q4⟩
theorem GoodO.call {all r : List Oper} {o : Oper} {c : Call} {f : FuncId} {args : List Value} {R : Out → Heap → Prop} (hgd : o.guard = none) (hop : o.op = .call c) (hc : callee P c e.eval = some (f, args)) (hw : WFS P ng f args h R)
    (hp : ∀ v h', ¬ R (.pan v) h') (hk : ∀ v h', R (.ret v) h' → GoodO P ng nt all r (e.put o.dst v) h' Q) : GoodO P ng nt all (o :: r) e h Q := by
  intro hwf k hl hok m w a hh hg hr
  simp only [List.all_cons, Bool.and_eq_true] at hok
  have h0 : all.toArray[k]? = some o := by have := hl 0 (by simp); simpa using this.symm
  obtain ⟨hen, hcalls⟩ := hw hwf
  simp only [List.length_cons, List.range'_succ]
  refine wpOps_step h0 (by simp [Region.wanted, hgd]) ?_
  have hops : ∀ x ∈ c.operands.toList, VRel m (evalF e.at x) (a.eval x) := by
    have := opers_rel hr hg hok.1
    rw [hop] at this
    exact this
  rw [Env.eval_eq] at hc
  obtain ⟨args', h1, h2⟩ := call_run (P := P) (w := w) hop hops hc hen
  unfold Oper.wp
  rw [h2]
  refine (hcalls m w args' hh hg h1).mono ?_
  rintro en w' ⟨out, h', m', hR, hwf', ho, hh', hs⟩
  cases out with
  | pan v => exact absurd hR (hp v h')
  | ret v =>
    obtain ⟨v', rfl, hv⟩ := ho
    have := hk v h' hR hwf' (k + 1) (fun j hj => by have := hl (j + 1) (by simpa using hj); simpa [Nat.add_assoc, Nat.add_comm 1 j] using this) hok.2 m' w' (a.put o.dst v') hh' (hg.mono hs.ext) (by rw [Env.put_at]; exact (hr.mono hs.ext).put hv (dst_lt hok.1))
    exact wpOps_land hs _ _ _ this
/- ## Loops over maps -/
theorem XRel.same {m m' : Mp} (e : Alike m m') {ex : AExit} {x : Exit} (h : XRel m ex x) : XRel m' ex x := by
  cases ex with
  | pan v => obtain ⟨v', h1, h2⟩ := (h : ∃ v', x = .panic [{ v := v', recovered := false }] ∧ VRel m v v'); exact ⟨v', h1, h2.same e⟩
  | _ => exact h
theorem XRel.mono {m m' : Mp} (e : Ext m m') {ex : AExit} {x : Exit} (h : XRel m ex x) : XRel m' ex x := by
  cases ex with
  | pan v => obtain ⟨v', h1, h2⟩ := (h : ∃ v', x = .panic [{ v := v', recovered := false }] ∧ VRel m v v'); exact ⟨v', h1, h2.mono e⟩
  | _ => exact h
theorem get_put (h : Heap) (d : Nat) (x : Blk) : (h.put d x).get = fun b => if b = d then some x else h.get b := by
  funext b
  show (h.t.set d x).get b = _
  rw [Trie.get_set]; rfl
theorem HRel.drop {m : Mp} {h : Heap} {w : World} {d r since last : Nat} {seen : List Nat} (hh : HRel m (h.put d (.iter r since seen none last)).get w) :
    ∃ m', HRel m' (h.put d .dead).get w ∧ Step m w m' w := by
  rw [get_put] at hh
  have hb := hh.blk d
  simp only [if_pos] at hb
  cases hm : m d with
  | fresh => rw [hm] at hb; exact hb.elim
  | dead => rw [hm] at hb; exact hb.elim
  | sym k n => rw [hm] at hb; exact hb.elim
  | live l =>
    rw [hm] at hb
    obtain ⟨k1, k2⟩ := hh.kill hm hb.1.1
    refine ⟨_, ?_, k2⟩
    rw [get_put]
    have e : (fun b' => if b' = d then some Blk.dead else if b' = d then some (Blk.iter r since seen none last) else h.get b') = fun b' => if b' = d then some .dead else h.get b' := by
      funext b'
      by_cases e : b' = d
      · rw [if_pos e, if_pos e]
      · rw [if_neg e, if_neg e, if_neg e]
    rw [e] at k1
    exact k1
end Go.AM
end
section
/- Maps with int keys, for rewriting; the entry that a loop is at. Conditions: as each rule says. -/
set_option linter.unusedSectionVars false
namespace Go.AM
variable {P : Program}
abbrev Ent := Int × Value × Nat
def entV (k : IntKind) (l : List Ent) : List (Value × Value × Nat) := l.map fun x => (.int k x.1, x.2.1, x.2.2)
def lookI : List Ent → Int → Option Value
  | [], _ => none
  | x :: r, n => if n = x.1 then some x.2.1 else lookI r n
theorem keyEq_int (k k' : IntKind) (a b : Int) : keyEq (.int k a) (.int k' b) = decide (a = b) := by
  show (a == b) = _
  rw [Bool.eq_iff_iff]; simp
theorem findE_ent (k : IntKind) (n : Int) : ∀ l : List Ent, findE (.int k n) (entV k l) = lookI l n
  | [] => rfl
  | x :: l => by
    have ih := findE_ent k n l
    show (if keyEq (.int k n) (.int k x.1) then some x.2.1 else findE (.int k n) (entV k l)) = if n = x.1 then some x.2.1 else lookI l n
    rw [keyEq_int, ih]
    by_cases h : n = x.1
    · rw [decide_eq_true h, if_pos h]; rfl
    · rw [decide_eq_false h, if_neg h]; rfl
theorem keysOk_ent (k : IntKind) (n : Int) (l : List Ent) : keysOk (.int k n) (entV k l) = true := by
  unfold keysOk entV
  rw [List.all_map, List.all_eq_true]
  intro x _
  show Nat.beq (kindN k) (kindN k) = true
  exact Nat.beq_refl _
def lkX (k : IntKind) (n : Int) (z : Value) (x : Option Blk) : Option Eff := match x with
  | some (.map es _) => if keysOk (.int k n) es then (match findE (.int k n) es with | some v => ret v | none => ret z) else none
  | _ => none
theorem lkX_some (k : IntKind) (n : Int) (z : Value) (l : List Ent) (c : Nat) : lkX k n z (some (.map (entV k l) c)) = ret ((lookI l n).getD z) := by
  unfold lkX
  simp only [keysOk_ent, if_true, findE_ent]
  cases lookI l n <;> rfl
theorem u_lookup {t kt elem : TypeId} {k : IntKind} {z : Value} (hu : P.underlying t = some (.map kt elem)) (hk : P.underlying kt = some (.int k)) (hz : zeroV P elem = some z) (r : Nat) (n : Int) (g : Nat → Option Blk) : effLookup P t (.map (some r)) (.int k n) false g = lkX k n z (g r) := by
  unfold effLookup lkX
  rw [hu]
  simp only [simpleKey, Bool.not_true, Bool.false_eq_true, if_false, hk]
  cases g r with
  | none => rfl
  | some b =>
    cases b <;> try rfl
    rename_i es c
    simp only [effLookup.keyDesc, Bool.true_and]
    cases hko : keysOk (.int k n) es with
    | false => rfl
    | true =>
      simp only [Bool.not_true, Bool.false_eq_true, if_false, if_true]
      cases findE (.int k n) es with
      | none => simp only [hz]
      | some v => rfl
variable {ng nt : Nat} [Ds nt] {e : Env} {h : Heap} {Q : AExit → Env → Heap → Prop}
theorem guard_undef {all : List Oper} {e : Env} {o : Oper} {j : Nat} {want : Bool} (hg : o.guard = some (j, want)) (hv : gval all e j = undef) : guardOk all e o = true ∧ wantedA all e o = false := by
  unfold gval at hv
  unfold guardOk wantedA
  rw [hg]
  simp only
  split at hv
  · rename_i d hd
    rw [hd]
    simp only
    rw [hv]
    exact ⟨rfl, rfl⟩
  · cases hv
theorem runG_undef {sp : Special} {K : List Frm} {all r : List Oper} {d : Option Tmp} {op : Op} {t : TypeId} {p : String} {af : Array Edge} {j : Nat} {want : Bool} {e : Env} {h : Heap} :
    RunG P ng sp Q K all r ⟨d, op, t, p, af, some (j, want)⟩ j undef e h ↔ undef = gval all e j ∧ Run P ng sp Q K (.ops all r) (e.put d undef) h := by
  refine and_congr_right fun hv => ?_
  obtain ⟨h1, h2⟩ := @guard_undef all e ⟨d, op, t, p, af, some (j, want)⟩ j want rfl hv.symm
  constructor
  · intro hr
    cases hr with
    | oskip _ _ h3 => exact h3
    | oeff _ h3 _ _ _ => rw [h2] at h3; cases h3
    | ocall _ h3 _ _ _ _ _ => rw [h2] at h3; cases h3
    | ocallp _ h3 _ _ _ _ _ => rw [h2] at h3; cases h3
    | opanic _ h3 _ _ _ => rw [h2] at h3; cases h3
  · exact fun hr => .oskip h1 h2 hr
theorem GoodO.nil {all : List Oper} (hq : Q .normal e h) : GoodO P ng nt all [] e h Q := fun hwf _ _ _ m w _ hh _ hr => ⟨.normal, e, h, m, hq, hwf, hh, .refl m w, hr, rfl⟩
theorem HWf.new {h : Heap} (hw : HWf h) (x : Blk) : HWf (h.new x) := fun b hb => by
  rw [Heap.nx_new] at hb
  rw [Heap.get_new_ne _ _ (by omega)]; exact hw b (by omega)
theorem HWf.upd {h : Heap} (hw : HWf h) {d : Nat} (hd : d < h.nx) (x : Blk) : HWf (h.upd d x) := fun b hb => by
  rw [Heap.nx_upd] at hb
  rw [Heap.get_upd_ne _ _ (by omega)]; exact hw b hb
theorem HWf.lt {h : Heap} (hw : HWf h) {b : Nat} {x : Blk} (hb : h.get b = some x) : b < h.nx := by
  rcases Nat.lt_or_ge b h.nx with q | q
  · exact q
  · rw [hw b q] at hb; cases hb
theorem GoodO.entry {all r : List Oper} {o : Oper} {x : Operand} {v : Value} (hgd : o.guard = none) (hop : o.op = .entry x) (hv : effEntry (e.eval x) h.get = some v) (hk : GoodO P ng nt all r (e.put o.dst v) h Q) : GoodO P ng nt all (o :: r) e h Q := by
  intro hwf k hl hok m w a hh hg hr
  simp only [List.all_cons, Bool.and_eq_true] at hok
  have h0 : all.toArray[k]? = some o := by have := hl 0 (by simp); simpa using this.symm
  simp only [List.length_cons, List.range'_succ]
  refine wpOps_step h0 (by simp [Region.wanted, hgd]) ?_
  rw [Env.eval_eq] at hv
  refine entry_wp (N := h.nx) (F := fun _ => none) hop (by rw [mix_none hwf (Nat.le_refl _)]; exact hh) hwf (Nat.le_refl _) hr hg hok.1 hv ?_
  intro v' hv'
  exact hk hwf (k + 1) (fun j hj => by have := hl (j + 1) (by simpa using hj); simpa [Nat.add_assoc, Nat.add_comm 1 j] using this) hok.2 m w (a.put o.dst v') hh hg (by rw [Env.put_at]; exact hr.put hv' (dst_lt hok.1))
end Go.AM
end
section
/- Loops by goto; texts as rows of bytes. Conditions: as each rule says. -/
namespace Go.AM
variable {P : Program} {ng : Nat} {sp : Special} {Q : AExit → Env → Heap → Prop}
abbrev mkS (l : List UInt8) : ByteArray := ⟨l.toArray⟩
theorem mkS_data (s : ByteArray) : mkS s.data.toList = s := by cases s; rfl
theorem mkS_size (l : List UInt8) : (mkS l).size = l.length := rfl
theorem str_index {t : TypeId} (ht : tyTag P t = 3) {l : List UInt8} {i : Nat} {b : UInt8} (hb : l[i]? = some b) : effIndex P t (.string (mkS l)) (.int .i64 (i : Int)) = ret (.int .u8 b.toNat) := by
  have hi := (List.getElem?_eq_some_iff.1 hb).1
  rw [effIndex_str t _ _ ht]
  have : idx (.int .i64 (i : Int)) (mkS l).size = some i := by
    unfold idx
    have : Nat.blt i l.length = true := by unfold Nat.blt; exact Nat.ble_eq_true_of_le hi
    simp only [mkS_size, this, cond_true]
  rw [this]
  show opR ((l[i]?).map _) = _
  rw [hb]; rfl
def u8s (l : List UInt8) : List Value := l.map fun b => .int .u8 b.toNat
theorem u8s_len (l : List UInt8) : (u8s l).length = l.length := List.length_map ..
theorem bytes_go : ∀ (l acc : List UInt8), bytesAt.go (u8s l) acc = some ⟨(acc.reverse ++ l).toArray⟩
  | [], acc => by rw [List.append_nil]; rfl
  | b :: l, acc => by
    show bytesAt.go (u8s l) (UInt8.ofNat ((b.toNat : Int)).toNat :: acc) = _
    rw [bytes_go l, Int.toNat_natCast, UInt8.ofNat_toNat, List.reverse_cons, List.append_assoc]; rfl
theorem bytes_at {g : Option Blk} {l : List UInt8} {k : Kind} (hg : g = some (cellsB (u8s l) k)) : bytesAt g 0 l.length = some (mkS l) := by
  subst hg
  unfold bytesAt cellsB
  simp only
  rw [if_pos (by rw [u8s_len]; omega), loadL_ofList _ _ _ (by rw [u8s_len]; omega), List.drop_zero, List.take_of_length_le (by rw [u8s_len]; omega), bytes_go]
  simp
end Go.AM
end
section
/- Rows that grow; texts that are gone through rune by rune. Conditions: as each rule says. -/
namespace Go.AM
variable {P : Program} {h : Heap}
structure RowG (h : Heap) (lo s : Nat) (v : Value) (n : Nat) (L : List Value) : Prop where
  len : L.length = n * s
  is : (v = .slice none 0 0 ∧ L = [] ∧ n = 0) ∨ ∃ b, lo ≤ b ∧ b < h.nx ∧ v = .slice (some ⟨b, 0, none⟩) n n ∧ h.get b = some (cellsB L (.loose s))
theorem RowG.nil {lo s : Nat} : RowG h lo s (.slice none 0 0) 0 [] := ⟨by simp, .inl ⟨rfl, rfl, rfl⟩⟩
theorem RowG.keep {h' : Heap} {lo s : Nat} {v : Value} {n : Nat} {L : List Value} (x : RowG h lo s v n L) (hn : h.nx ≤ h'.nx) (hk : ∀ b, lo ≤ b → b < h.nx → b ∈ blkOf v → h'.get b = h.get b) : RowG h' lo s v n L := by
  refine ⟨x.len, ?_⟩
  rcases x.is with ⟨h1, h2, h3⟩ | ⟨b, h1, h2, rfl, h4⟩
  · exact .inl ⟨h1, h2, h3⟩
  · exact .inr ⟨b, h1, by omega, rfl, (hk b h1 h2 (List.mem_singleton.2 rfl)).trans h4⟩
theorem RowG.lt {lo s : Nat} {v : Value} {n : Nat} {L : List Value} (x : RowG h lo s v n L) : ∀ b ∈ blkOf v, lo ≤ b ∧ b < h.nx := by
  intro b hb
  rcases x.is with ⟨rfl, h2, h3⟩ | ⟨b', h1, h2, rfl, h4⟩
  · cases hb
  · rw [List.mem_singleton.1 hb]; exact ⟨h1, h2⟩
theorem RowG.mono {lo lo' k n : Nat} {v : Value} {L : List Value} (x : RowG h lo k v n L) (hl : lo' ≤ lo) : RowG h lo' k v n L := by
  refine ⟨x.len, ?_⟩
  rcases x.is with h1 | ⟨b, h1, h2⟩
  · exact .inl h1
  · exact .inr ⟨b, by omega, h2⟩
/- ## Texts -/
theorem str_eqG (t : TypeId) (x y : Operand) (a b : List UInt8) (g : Nat → Option Blk) : effBin P .eql t x y (.string (mkS a)) (.string (mkS b)) g = ret (.bool (decide (a = b))) := by
  rw [effBin_str]
  show ret (.bool (a == b)) = _
  rw [show (a == b) = decide (a = b) by rw [Bool.eq_iff_iff, beq_iff_eq, decide_eq_true_iff]]
theorem mkS_extract (l : List UInt8) (a b : Nat) : (mkS l).extract a b = mkS ((l.drop a).take (b - a)) := by
  have : ((mkS l).extract a b).data = (mkS ((l.drop a).take (b - a))).data := by
    rw [ByteArray.data_extract]
    show (l.toArray).extract a b = ((l.drop a).take (b - a)).toArray
    rw [List.extract_toArray]
  cases h1 : (mkS l).extract a b with
  | mk d => rw [h1] at this; exact congrArg ByteArray.mk this
theorem str_to {t : TypeId} (ht : tyTag P t = 3) {l : List UInt8} {b : Nat} (h2 : b ≤ l.length) (g : Nat → Option Blk) : effSlice P t (.string (mkS l)) none (some (.int .i64 (b : Int))) none g = ret (.string (mkS (l.take b))) := by
  rw [effSlice_str t _ _ _ g ht]
  have : bounds (mkS l).size (mkS l).size none (some (.int .i64 (b : Int))) none = some (0, b, (mkS l).size) := by
    rw [u_bounds, bnd_int, if_pos ⟨by omega, by rw [mkS_size]; omega⟩]
    simp only [Int.toNat_natCast]
    rw [bnd_none]
    simp [mkS_size, h2]
  rw [this]
  simp only
  rw [mkS_extract, List.drop_zero, Nat.sub_zero]
def strs (l : List (List UInt8)) : List Value := l.map fun x => .string (mkS x)
theorem strs_len (l : List (List UInt8)) : (strs l).length = l.length := List.length_map ..
theorem strs_at {l : List (List UInt8)} {i : Nat} {x : List UInt8} (h : l[i]? = some x) : (strs l)[i]? = some (.string (mkS x)) := by
  unfold strs; rw [List.getElem?_map, h]; rfl
end Go.AM
end
section
/- The abstract machine once more, laid out so that the kernel copies little: what it comes to is the same. No condition. -/
namespace Go.AM
/- ## Tries -/
noncomputable def gPV (p : Path) : Trie Value → Option Value := @Path.rec (fun _ => Trie Value → Option Value)
  (fun t => @Trie.rec Value (fun _ => Option Value) none (fun v _ _ _ _ => v) t)
  (fun _ ih t => @Trie.rec Value (fun _ => (Trie Value → Option Value) → Option Value) (fun _ => none) (fun _ l _ _ _ ih => ih l) t ih)
  (fun _ ih t => @Trie.rec Value (fun _ => (Trie Value → Option Value) → Option Value) (fun _ => none) (fun _ _ r _ _ ih => ih r) t ih) p
noncomputable def gPB (p : Path) : Trie Blk → Option Blk := @Path.rec (fun _ => Trie Blk → Option Blk)
  (fun t => @Trie.rec Blk (fun _ => Option Blk) none (fun v _ _ _ _ => v) t)
  (fun _ ih t => @Trie.rec Blk (fun _ => (Trie Blk → Option Blk) → Option Blk) (fun _ => none) (fun _ l _ _ _ ih => ih l) t ih)
  (fun _ ih t => @Trie.rec Blk (fun _ => (Trie Blk → Option Blk) → Option Blk) (fun _ => none) (fun _ _ r _ _ ih => ih r) t ih) p
noncomputable def sPV (p : Path) : Value → Trie Value → Trie Value := @Path.rec (fun _ => Value → Trie Value → Trie Value)
  (fun v t => @Trie.rec Value (fun _ => Value → Trie Value) (fun v => .node (some v) .leaf .leaf) (fun _ l r _ _ v => .node (some v) l r) t v)
  (fun _ ih v t => @Trie.rec Value (fun _ => (Value → Trie Value → Trie Value) → Value → Trie Value) (fun ih v => .node none (ih v .leaf) .leaf) (fun o l r _ _ ih v => .node o (ih v l) r) t ih v)
  (fun _ ih v t => @Trie.rec Value (fun _ => (Value → Trie Value → Trie Value) → Value → Trie Value) (fun ih v => .node none .leaf (ih v .leaf)) (fun o l r _ _ ih v => .node o l (ih v r)) t ih v) p
noncomputable def sPB (p : Path) : Blk → Trie Blk → Trie Blk := @Path.rec (fun _ => Blk → Trie Blk → Trie Blk)
  (fun v t => @Trie.rec Blk (fun _ => Blk → Trie Blk) (fun v => .node (some v) .leaf .leaf) (fun _ l r _ _ v => .node (some v) l r) t v)
  (fun _ ih v t => @Trie.rec Blk (fun _ => (Blk → Trie Blk → Trie Blk) → Blk → Trie Blk) (fun ih v => .node none (ih v .leaf) .leaf) (fun o l r _ _ ih v => .node o (ih v l) r) t ih v)
  (fun _ ih v t => @Trie.rec Blk (fun _ => (Blk → Trie Blk → Trie Blk) → Blk → Trie Blk) (fun ih v => .node none .leaf (ih v .leaf)) (fun o l r _ _ ih v => .node o l (ih v r)) t ih v) p
theorem gPV_eq : ∀ (p : Path) (t : Trie Value), gPV p t = Trie.getP p t
  | .e, t => by cases t <;> rfl
  | .l p, t => by cases t with
    | leaf => rfl
    | node o l r => exact gPV_eq p l
  | .r p, t => by cases t with
    | leaf => rfl
    | node o l r => exact gPV_eq p r
theorem gPB_eq : ∀ (p : Path) (t : Trie Blk), gPB p t = Trie.getP p t
  | .e, t => by cases t <;> rfl
  | .l p, t => by cases t with
    | leaf => rfl
    | node o l r => exact gPB_eq p l
  | .r p, t => by cases t with
    | leaf => rfl
    | node o l r => exact gPB_eq p r
theorem sPV_eq (v : Value) : ∀ (p : Path) (t : Trie Value), sPV p v t = Trie.setP v p t
  | .e, t => by cases t <;> rfl
  | .l p, t => by cases t with
    | leaf => show Trie.node none (sPV p v .leaf) .leaf = _; rw [sPV_eq v p]; rfl
    | node o l r => show Trie.node o (sPV p v l) r = _; rw [sPV_eq v p]; rfl
  | .r p, t => by cases t with
    | leaf => show Trie.node none .leaf (sPV p v .leaf) = _; rw [sPV_eq v p]; rfl
    | node o l r => show Trie.node o l (sPV p v r) = _; rw [sPV_eq v p]; rfl
theorem sPB_eq (v : Blk) : ∀ (p : Path) (t : Trie Blk), sPB p v t = Trie.setP v p t
  | .e, t => by cases t <;> rfl
  | .l p, t => by cases t with
    | leaf => show Trie.node none (sPB p v .leaf) .leaf = _; rw [sPB_eq v p]; rfl
    | node o l r => show Trie.node o (sPB p v l) r = _; rw [sPB_eq v p]; rfl
  | .r p, t => by cases t with
    | leaf => show Trie.node none .leaf (sPB p v .leaf) = _; rw [sPB_eq v p]; rfl
    | node o l r => show Trie.node o l (sPB p v r) = _; rw [sPB_eq v p]; rfl
noncomputable def loadQ (xs : Trie Value) (off n : Nat) : List Value := @Nat.rec (fun _ => Trie Value → Nat → List Value) (fun _ _ => []) (fun _ ih xs off => @Option.rec Value (fun _ => Value) undef (fun v => v) (gPV (path off) xs) :: ih xs (Nat.succ off)) n xs off
theorem loadQ_eq (xs : Trie Value) : ∀ n off, loadQ xs off n = loadL xs off n
  | 0, _ => rfl
  | n + 1, off => by
    show @Option.rec Value (fun _ => Value) undef (fun v => v) (gPV (path off) xs) :: loadQ xs (off + 1) n = _
    rw [gPV_eq, loadQ_eq xs n]; rfl
noncomputable def storeQ (xs : Trie Value) (off : Nat) (l : List Value) : Trie Value := @List.rec Value (fun _ => Trie Value → Nat → Trie Value) (fun t _ => t) (fun v _ ih t o => ih (sPV (path o) v t) (Nat.succ o)) l xs off
theorem storeQ_eq : ∀ (l : List Value) (xs : Trie Value) (off : Nat), storeQ xs off l = storeL xs off l
  | [], _, _ => rfl
  | v :: r, xs, off => by
    show storeQ (sPV (path off) v xs) (off + 1) r = _
    rw [sPV_eq, storeQ_eq r]; rfl
noncomputable def atQ (e : Env) (t : Tmp) : Value := @Option.rec Value (fun _ => Value) topV (fun v => v) (gPV (path t) e)
theorem atQ_eq (e : Env) (t : Tmp) : atQ e t = e.at t := by unfold atQ; rw [gPV_eq]; rfl
noncomputable def putQ (d : Option Tmp) (v : Value) (e : Env) : Env := @Option.rec Tmp (fun _ => Value → Env → Env) (fun _ e => e) (fun d v e => sPV (path d) v e) d v e
theorem putQ_eq (d : Option Tmp) (v : Value) (e : Env) : putQ d v e = e.put d v := by
  cases d with
  | none => rfl
  | some d => exact sPV_eq v (path d) e
noncomputable def getQ (h : Heap) (b : Nat) : Option Blk := gPB (path b) h.t
theorem getQ_eq (h : Heap) : getQ h = h.get := funext fun b => gPB_eq (path b) h.t
/- cases by recursors whose parts are closed terms: the kernel copies little -/
abbrev REZ := Option Eff
noncomputable def retV (v : Value) : REZ := some ⟨v, [], []⟩
noncomputable def retB (b : Bool) : REZ := some ⟨.bool b, [], []⟩
noncomputable def vIP (v : Value) : (IntKind → Int → REZ) → (Option Addr → REZ) → REZ → REZ :=
  @Value.rec (fun _ => (IntKind → Int → REZ) → (Option Addr → REZ) → REZ → REZ) (fun _ => Unit) (fun _ => Unit) (fun _ _ _ d => d) (fun k n f _ _ => f k n) (fun _ _ _ _ d => d) (fun _ _ _ _ _ d => d) (fun _ _ _ d => d) (fun a _ f _ => f a) (fun _ _ _ _ _ d => d) (fun _ _ _ d => d) (fun _ _ _ d => d)
    (fun _ _ _ _ _ _ _ d => d) (fun _ _ d => d) (fun _ _ _ _ _ d => d) (fun _ _ d => d) (fun _ _ _ _ d => d) (fun _ _ _ _ d => d) (fun _ _ => ()) () (fun _ _ _ _ => ()) v
noncomputable def vSP (v : Value) : (Option Addr → Nat → Nat → REZ) → (Option Addr → REZ) → REZ → REZ :=
  @Value.rec (fun _ => (Option Addr → Nat → Nat → REZ) → (Option Addr → REZ) → REZ → REZ) (fun _ => Unit) (fun _ => Unit) (fun _ _ _ d => d) (fun _ _ _ _ d => d) (fun _ _ _ _ d => d) (fun _ _ _ _ _ d => d) (fun _ _ _ d => d) (fun a _ f _ => f a) (fun a l c f _ _ => f a l c) (fun _ _ _ d => d) (fun _ _ _ d => d)
    (fun _ _ _ _ _ _ _ d => d) (fun _ _ d => d) (fun _ _ _ _ _ d => d) (fun _ _ d => d) (fun _ _ _ _ d => d) (fun _ _ _ _ d => d) (fun _ _ => ()) () (fun _ _ _ _ => ()) v
noncomputable def vTA (v : Value) : (Array Value → REZ) → (Array Value → REZ) → REZ → REZ :=
  @Value.rec (fun _ => (Array Value → REZ) → (Array Value → REZ) → REZ → REZ) (fun _ => Unit) (fun _ => Unit) (fun _ _ _ d => d) (fun _ _ _ _ d => d) (fun _ _ _ _ d => d) (fun _ _ _ _ _ d => d) (fun _ _ _ d => d) (fun _ _ _ d => d) (fun _ _ _ _ _ d => d) (fun _ _ _ d => d) (fun _ _ _ d => d)
    (fun _ _ _ _ _ _ _ d => d) (fun _ _ d => d) (fun _ _ _ _ _ d => d) (fun _ _ d => d) (fun c _ _ f _ => f c) (fun c _ f _ _ => f c) (fun _ _ => ()) () (fun _ _ _ _ => ()) v
noncomputable def cellsR (v : Value) : Option (List Value) :=
  @Value.rec (fun _ => Value → Option (List Value)) (fun _ => Unit) (fun _ => Unit) (fun _ v => some [v]) (fun _ _ v => some [v]) (fun _ _ v => some [v]) (fun _ _ _ v => some [v]) (fun _ v => some [v]) (fun _ v => some [v]) (fun _ _ _ v => some [v]) (fun _ v => some [v]) (fun _ v => some [v])
    (fun _ _ _ _ _ v => some [v]) (fun v => some [v]) (fun _ _ _ v => some [v]) (fun v => some [v]) (fun c _ _ => some c.toList) (fun _ _ _ => none) (fun _ _ => ()) () (fun _ _ _ _ => ()) v v
noncomputable def storableR (v : Value) : Bool :=
  @Value.rec (fun _ => Bool) (fun _ => Unit) (fun _ => Unit) (fun _ => true) (fun _ _ => true) (fun _ _ => true) (fun _ _ _ => true) (fun _ => true) (fun _ => true) (fun _ _ _ => true) (fun _ => true) (fun _ => true)
    (fun _ _ _ _ _ => true) true (fun _ _ _ => true) true (fun _ _ => true) (fun _ _ => false) (fun _ _ => ()) () (fun _ _ _ _ => ()) v
noncomputable def spotK (s : Option Nat) : Nat → Nat → (Nat → Nat → REZ) → REZ → REZ := @Option.rec Nat (fun _ => Nat → Nat → (Nat → Nat → REZ) → REZ → REZ) (fun b o f _ => f b o) (fun _ _ _ _ d => d) s
noncomputable def addrK (a : Addr) : (Nat → Nat → REZ) → REZ → REZ := @Addr.rec (fun _ => (Nat → Nat → REZ) → REZ → REZ) (fun b o s f d => spotK s b o f d) a
noncomputable def addrO (a : Option Addr) : (Nat → Nat → REZ) → REZ → REZ := @Option.rec Addr (fun _ => (Nat → Nat → REZ) → REZ → REZ) (fun _ d => d) (fun a f d => addrK a f d) a
noncomputable def someA (a : Option Addr) : (Addr → REZ) → REZ → REZ := @Option.rec Addr (fun _ => (Addr → REZ) → REZ → REZ) (fun _ d => d) (fun a f _ => f a) a
noncomputable def blkC (x : Blk) : (Trie Value → Nat → Kind → REZ) → REZ → REZ := @Blk.rec (fun _ => (Trie Value → Nat → Kind → REZ) → REZ → REZ) (fun xs n k f _ => f xs n k) (fun _ _ _ d => d) (fun _ _ _ d => d) (fun _ _ _ _ _ _ d => d) (fun _ _ _ _ d => d) (fun _ _ d => d) (fun _ d => d) x
noncomputable def blkO (x : Option Blk) : (Trie Value → Nat → Kind → REZ) → REZ → REZ := @Option.rec Blk (fun _ => (Trie Value → Nat → Kind → REZ) → REZ → REZ) (fun _ d => d) (fun x f d => blkC x f d) x
noncomputable def roK (k : Kind) : REZ → REZ := @Kind.rec (fun _ => REZ → REZ) (fun _ => none) (fun r => r) (fun _ r => r) (fun r => r) (fun _ r => r) (fun _ r => r) k
noncomputable def bR (b : Bool) (f t : REZ) : REZ := @Bool.rec (fun _ => REZ → REZ → REZ) (fun f _ => f) (fun _ t => t) b f t
noncomputable def intC (i : Int) : (Nat → REZ) → REZ → REZ := @Int.rec (fun _ => (Nat → REZ) → REZ → REZ) (fun n f _ => f n) (fun _ _ d => d) i
/- numbers -/
noncomputable def kindR (k : IntKind) : Nat := @IntKind.rec (fun _ => Nat) 0 1 2 3 4 5 6 7 k
noncomputable def wrapN (k : IntKind) (m : Nat) : Int := @IntKind.rec (fun _ => Nat → Int) (fun m => wrapF .i8 (.ofNat m)) (fun m => wrapF .i16 (.ofNat m)) (fun m => wrapF .i32 (.ofNat m)) (fun m => Bool.rec (IntKind.wrap .i64 (.ofNat m)) (.ofNat m) (Nat.ble m 9223372036854775807))
  (fun m => .ofNat (Nat.mod m 256)) (fun m => wrapF .u16 (.ofNat m)) (fun m => wrapF .u32 (.ofNat m)) (fun m => Bool.rec (IntKind.wrap .u64 (.ofNat m)) (.ofNat m) (Nat.ble m 18446744073709551615)) k m
noncomputable def wrapR (k : IntKind) (i : Int) : Int := @Int.rec (fun _ => IntKind → Int) (fun m k => wrapN k m) (fun m k => wrapF k (.negSucc m)) i k
noncomputable def retN (k : IntKind) (m : Nat) : REZ := some ⟨.int k (wrapN k m), [], []⟩
noncomputable def nnK (op : BinOp) (k : IntKind) (a b : Int) (f : IntKind → Nat → Nat → REZ) : REZ :=
  @Int.rec (fun _ => BinOp → IntKind → Int → (IntKind → Nat → Nat → REZ) → REZ) (fun a op k b f => @Int.rec (fun _ => BinOp → IntKind → Nat → (IntKind → Nat → Nat → REZ) → REZ) (fun b _ k a f => f k a b) (fun b op k a _ => (intOp op k (.ofNat a) (.negSucc b)).bind ret) b op k a f) (fun a op k b _ => (intOp op k (.negSucc a) b).bind ret) a op k b f
noncomputable def n_add (k : IntKind) (a b : Nat) : REZ := retN k (Nat.add a b)
noncomputable def n_sub (k : IntKind) (a b : Nat) : REZ := bR (Nat.ble b a) ((intOp .sub k (.ofNat a) (.ofNat b)).bind ret) (retN k (Nat.sub a b))
noncomputable def n_mul (k : IntKind) (a b : Nat) : REZ := retN k (Nat.mul a b)
noncomputable def n_quo (k : IntKind) (a b : Nat) : REZ := bR (Nat.beq b 0) (retN k (Nat.div a b)) none
noncomputable def n_rem (k : IntKind) (a b : Nat) : REZ := bR (Nat.beq b 0) (some ⟨.int k (.ofNat (Nat.mod a b)), [], []⟩) none
noncomputable def n_eql (_ : IntKind) (a b : Nat) : REZ := retB (Nat.beq a b)
noncomputable def n_neq (_ : IntKind) (a b : Nat) : REZ := retB (Bool.rec true false (Nat.beq a b))
noncomputable def n_lss (_ : IntKind) (a b : Nat) : REZ := retB (Nat.blt a b)
noncomputable def n_leq (_ : IntKind) (a b : Nat) : REZ := retB (Bool.rec true false (Nat.blt b a))
noncomputable def n_gtr (_ : IntKind) (a b : Nat) : REZ := retB (Nat.blt b a)
noncomputable def n_geq (_ : IntKind) (a b : Nat) : REZ := retB (Bool.rec true false (Nat.blt a b))
abbrev IIT := IntKind → Int → Int → REZ
noncomputable def opII (op : BinOp) : IIT := @BinOp.rec (fun _ => IIT) (fun k a b => nnK .add k a b n_add) (fun k a b => nnK .sub k a b n_sub) (fun k a b => nnK .mul k a b n_mul) (fun k a b => nnK .quo k a b n_quo) (fun k a b => nnK .rem k a b n_rem)
  (fun k a b => (intOp .and k a b).bind ret) (fun k a b => (intOp .or k a b).bind ret) (fun k a b => (intOp .xor k a b).bind ret) (fun _ _ _ => none) (fun _ _ _ => none) (fun k a b => (intOp .andNot k a b).bind ret)
  (fun k a b => nnK .eql k a b n_eql) (fun k a b => nnK .neq k a b n_neq) (fun k a b => nnK .lss k a b n_lss) (fun k a b => nnK .leq k a b n_leq) (fun k a b => nnK .gtr k a b n_gtr) (fun k a b => nnK .geq k a b n_geq) op
noncomputable def sameK (k k' : IntKind) (op : BinOp) (a b : Int) : REZ := bR (Nat.beq (kindR k) (kindR k')) none (opII op k a b)
noncomputable def kkII (op : BinOp) : IntKind → Int → IntKind → Int → REZ := @BinOp.rec (fun _ => IntKind → Int → IntKind → Int → REZ) (fun k a k' b => sameK k k' .add a b) (fun k a k' b => sameK k k' .sub a b) (fun k a k' b => sameK k k' .mul a b) (fun k a k' b => sameK k k' .quo a b) (fun k a k' b => sameK k k' .rem a b)
  (fun k a k' b => sameK k k' .and a b) (fun k a k' b => sameK k k' .or a b) (fun k a k' b => sameK k k' .xor a b) (fun k a _ b => (shiftOp .shl k a b).bind ret) (fun k a _ b => (shiftOp .shr k a b).bind ret) (fun k a k' b => sameK k k' .andNot a b)
  (fun k a k' b => sameK k k' .eql a b) (fun k a k' b => sameK k k' .neq a b) (fun k a k' b => sameK k k' .lss a b) (fun k a k' b => sameK k k' .leq a b) (fun k a k' b => sameK k k' .gtr a b) (fun k a k' b => sameK k k' .geq a b) op
def ptrT (P : Program) (t : TypeId) : Bool := match P.underlying t with
  | some (.pointer _) => true
  | _ => false
noncomputable def eqR (op : BinOp) (r : Bool) : REZ := @BinOp.rec (fun _ => Bool → REZ) (fun _ => none) (fun _ => none) (fun _ => none) (fun _ => none) (fun _ => none) (fun _ => none) (fun _ => none) (fun _ => none) (fun _ => none) (fun _ => none) (fun _ => none) (fun r => retB r) (fun r => retB (Bool.rec true false r)) (fun _ => none) (fun _ => none) (fun _ => none) (fun _ => none) op r
noncomputable def noneA (a : Option Addr) : Bool := @Option.rec Addr (fun _ => Bool) true (fun _ => false) a
noncomputable def ppK (a : Option Addr) : Option Addr → BinOp → REZ → REZ := @Option.rec Addr (fun _ => Option Addr → BinOp → REZ → REZ) (fun b op _ => eqR op (noneA b)) (fun _ b op d => @Option.rec Addr (fun _ => BinOp → REZ → REZ) (fun op _ => eqR op false) (fun _ _ d => d) b op d) a
noncomputable def fBin (op : BinOp) (t : TypeId) (x y : Operand) (P : Program) (a b : Value) (g : Nat → Option Blk) : REZ :=
  vIP a (fun k n => vIP b (kkII op k n) (fun _ => effBin P op t x y (.int k n) b g) (effBin P op t x y (.int k n) b g))
    (fun p => vIP b (fun _ _ => effBin P op t x y (.pointer p) b g) (fun q => bR (ptrT P t) (effBin P op t x y (.pointer p) (.pointer q) g) (ppK p q op (effBin P op t x y (.pointer p) (.pointer q) g))) (effBin P op t x y (.pointer p) b g)) (effBin P op t x y a b g)
/- memory -/
def ldT (P : Program) (t : TypeId) : Option (Option Nat) := match P.underlying t with
  | none => none
  | some d => cond (aggB (some d)) ((P.info? t).map fun i => some i.size) (some none)
noncomputable def ldOne (xs : Trie Value) (off n : Nat) : REZ := bR (Nat.blt off n) none (@Option.rec Value (fun _ => REZ) none (fun v => retV v) (gPV (path off) xs))
noncomputable def ldMany (s : Nat) (xs : Trie Value) (off n : Nat) : REZ := bR (Nat.ble (off + s) n) none (retV (.agg ⟨loadQ xs off s⟩))
noncomputable def ldK (o : Option (Option Nat)) : Trie Value → Nat → Nat → REZ := @Option.rec (Option Nat) (fun _ => Trie Value → Nat → Nat → REZ) (fun _ _ _ => none) (fun o xs off n => @Option.rec Nat (fun _ => Trie Value → Nat → Nat → REZ) (fun xs off n => ldOne xs off n) (fun s xs off n => ldMany s xs off n) o xs off n) o
noncomputable def fLoad (t : TypeId) (P : Program) (a : Value) (g : Nat → Option Blk) : REZ := vIP a (fun _ _ => none) (fun p => addrO p (fun b off => blkO (g b) (fun xs n _ => ldK (ldT P t) xs off n) none) none) none
def sizeT (P : Program) (t : TypeId) : Option Nat := (P.info? t).map (·.size)
noncomputable def lenR (l : List Value) : Nat := @List.rec Value (fun _ => Nat) 0 (fun _ _ n => Nat.succ n) l
noncomputable def stK (o : Option Nat) : List Value → Nat → Nat → Trie Value → Nat → Kind → REZ := @Option.rec Nat (fun _ => List Value → Nat → Nat → Trie Value → Nat → Kind → REZ) (fun _ _ _ _ _ _ => none)
  (fun s vs b off xs n k => bR (Nat.beq (lenR vs) s) none (bR (Nat.ble (off + s) n) none (some ⟨undef, [(b, .cells (storeQ xs off vs) n k)], []⟩))) o
noncomputable def stV (o : Option (List Value)) : Option Nat → Nat → Nat → Trie Value → Nat → Kind → REZ := @Option.rec (List Value) (fun _ => Option Nat → Nat → Nat → Trie Value → Nat → Kind → REZ) (fun _ _ _ _ _ _ => none) (fun vs s b off xs n k => stK s vs b off xs n k) o
noncomputable def fStore (t : TypeId) (P : Program) (a x : Value) (g : Nat → Option Blk) : REZ := vIP a (fun _ _ => none) (fun p => addrO p (fun b off => blkO (g b) (fun xs n k => roK k (stV (cellsR x) (sizeT P t) b off xs n k)) none) none) none
noncomputable def addA (a : Addr) (n : Nat) : Addr := @Nat.rec (fun _ => Addr → Addr) (fun a => a) (fun m _ a => ⟨a.block, Nat.add a.off (Nat.succ m), none⟩) n a
def fldT (P : Program) (s : TypeId) (f : Nat) : Option Nat := match P.underlying s with
  | some (.struct fields) => match fields.toList[f]? with
    | some f => match P.info? f.type with
      | some i => cond (Nat.beq i.size 0) none (some f.offset)
      | none => none
    | none => none
  | _ => none
noncomputable def fldK (o : Option Nat) : Addr → REZ := @Option.rec Nat (fun _ => Addr → REZ) (fun _ => none) (fun n a => retV (.pointer (some (addA a n)))) o
noncomputable def fField (s : TypeId) (f : Nat) (P : Program) (x : Value) : REZ := vIP x (fun _ _ => none) (fun p => someA p (fun a => fldK (fldT P s f) a) none) none
def idxAZ (P : Program) (t : TypeId) : Option (Nat × Nat) := match P.underlying t with
  | some (.array len elem) => (sizeOf? P elem).map fun s => (len, s)
  | _ => none
def idxS (P : Program) (t : TypeId) : Option Nat := match P.underlying t with
  | some (.slice elem) => sizeOf? P elem
  | _ => none
noncomputable def idxK (a : Addr) (len s : Nat) (ix : Value) : REZ := vIP ix (fun _ i => intC i (fun i => bR (Nat.blt i len) none (retV (.pointer (some (addA a (Nat.mul i s)))))) none) (fun _ => none) none
noncomputable def idxAK (o : Option (Nat × Nat)) : Addr → Value → REZ := @Option.rec (Nat × Nat) (fun _ => Addr → Value → REZ) (fun _ _ => none) (fun p a ix => idxK a p.1 p.2 ix) o
noncomputable def idxSK (o : Option Nat) : Addr → Nat → Value → REZ := @Option.rec Nat (fun _ => Addr → Nat → Value → REZ) (fun _ _ _ => none) (fun s a len ix => idxK a len s ix) o
noncomputable def fIdx (t : TypeId) (P : Program) (x ix : Value) : REZ := vSP x (fun p len _ => someA p (fun a => idxSK (idxS P t) a len ix) none) (fun p => someA p (fun a => idxAK (idxAZ P t) a ix) none) none
noncomputable def fExtract (i : Nat) (t : Value) : REZ := vTA t (fun vs => @Option.rec Value (fun _ => REZ) none (fun v => bR (storableR v) none (retV v)) vs.toList[i]?) (fun _ => none) none
noncomputable def fNil (P : Program) (x : Value) : REZ := vIP x (fun _ _ => none) (fun p => someA p (fun a => retV (.pointer (some a))) none) (effNil P x)
def cvT (P : Program) (s d : TypeId) : Option IntKind := match P.underlying s, P.underlying d with
  | some _, some (.int k) => some k
  | _, _ => none
noncomputable def cvK (o : Option IntKind) : Int → REZ → REZ := @Option.rec IntKind (fun _ => Int → REZ → REZ) (fun _ d => d) (fun k n _ => retV (.int k (wrapR k n))) o
noncomputable def fConv (s d : TypeId) (P : Program) (x : Value) (g : Nat → Option Blk) (nx : Nat) : REZ := vIP x (fun k n => cvK (cvT P s d) n (effConv P s d (.int k n) g nx)) (fun p => effConv P s d (.pointer p) g nx) (effConv P s d x g nx)
noncomputable def evalQ (x : Operand) (e : Env) : Value := @Operand.rec (fun _ => Env → Value) (fun t e => atQ e t) (fun v _ => v) (fun g _ => .pointer (some ⟨g, 0, none⟩)) (fun f _ => .func (.func f) #[] #[]) x e
theorem evalQ_eq (e : Env) : (fun x => evalQ x e) = e.eval := funext fun x => by
  cases x with
  | tmp t => exact atQ_eq e t
  | _ => rfl
theorem evalQ_eq' (e : Env) (x : Operand) : evalQ x e = e.eval x := congrFun (evalQ_eq e) x
theorem cellsR_eq (v : Value) : cellsR v = cellsOf v := by cases v <;> rfl
theorem storableR_eq (v : Value) : storableR v = storable v := by cases v <;> rfl
theorem lenR_eq : ∀ l : List Value, lenR l = l.length
  | [] => rfl
  | _ :: r => by show Nat.succ (lenR r) = _; rw [lenR_eq r]; rfl
theorem kindR_eq (k : IntKind) : kindR k = kindN k := by cases k <;> rfl
theorem wrapN_eq (k : IntKind) (m : Nat) : wrapN k m = wrapF k (.ofNat m) := by
  cases k with
  | i64 => show (Bool.rec _ _ (Nat.ble m 9223372036854775807) : Int) = cond (Nat.ble m 9223372036854775807) _ _; cases Nat.ble m 9223372036854775807 <;> rfl
  | u64 => show (Bool.rec _ _ (Nat.ble m 18446744073709551615) : Int) = cond (Nat.ble m 18446744073709551615) _ _; cases Nat.ble m 18446744073709551615 <;> rfl
  | _ => rfl
theorem wrapR_eq (k : IntKind) (i : Int) : wrapR k i = wrapF k i := by
  cases i with
  | ofNat m => exact wrapN_eq k m
  | negSucc m => rfl
theorem retN_eq (k : IntKind) (m : Nat) : retN k m = ret (.int k (wrapF k (.ofNat m))) := by unfold retN; rw [wrapN_eq]; rfl
theorem nnK_eq (op : BinOp) (k : IntKind) (f : IntKind → Nat → Nat → REZ) (hf : ∀ a b : Nat, f k a b = (intOp op k (.ofNat a) (.ofNat b)).bind ret) (a b : Int) : nnK op k a b f = (intOp op k a b).bind ret := by
  cases a with
  | ofNat a => cases b with
    | ofNat b => exact hf a b
    | negSucc b => rfl
  | negSucc a => rfl
theorem notB_eq (b : Bool) : (Bool.rec true false b : Bool) = !b := by cases b <;> rfl
theorem opII_eq (op : BinOp) (k : IntKind) (a b : Int) : opII op k a b = (intOp op k a b).bind ret := by
  cases op with
  | add => exact nnK_eq .add k _ (fun a b => retN_eq k _) a b
  | sub => exact nnK_eq .sub k _ (fun a b => by
      unfold n_sub
      cases hb : Nat.ble b a with
      | false => rfl
      | true =>
        have hb := Nat.le_of_ble_eq_true hb
        show retN k (a - b) = _
        rw [retN_eq]
        show _ = ret (.int k (wrapF k ((a : Int) - (b : Int))))
        rw [← Int.ofNat_sub hb]; rfl) a b
  | mul => exact nnK_eq .mul k _ (fun a b => retN_eq k _) a b
  | quo => exact nnK_eq .quo k _ (fun a b => by
      unfold n_quo
      show bR (Nat.beq b 0) _ _ = (cond (Nat.beq b 0) none _ : Option Value).bind ret
      cases Nat.beq b 0 with
      | true => rfl
      | false => exact retN_eq k _) a b
  | rem => exact nnK_eq .rem k _ (fun a b => by
      unfold n_rem
      show bR (Nat.beq b 0) _ _ = (cond (Nat.beq b 0) none _ : Option Value).bind ret
      cases Nat.beq b 0 <;> rfl) a b
  | and => rfl
  | or => rfl
  | xor => rfl
  | shl => rfl
  | shr => rfl
  | andNot => rfl
  | eql => exact nnK_eq .eql k _ (fun a b => rfl) a b
  | neq => exact nnK_eq .neq k _ (fun a b => by unfold n_neq; rw [notB_eq]; rfl) a b
  | lss => exact nnK_eq .lss k _ (fun a b => rfl) a b
  | leq => exact nnK_eq .leq k _ (fun a b => by unfold n_leq; rw [notB_eq]; rfl) a b
  | gtr => exact nnK_eq .gtr k _ (fun a b => rfl) a b
  | geq => exact nnK_eq .geq k _ (fun a b => by unfold n_geq; rw [notB_eq]; rfl) a b
theorem sameK_eq (k k' : IntKind) (op : BinOp) (a b : Int) : sameK k k' op a b = cond (Nat.beq (kindN k) (kindN k')) ((intOp op k a b).bind ret) none := by
  unfold sameK
  rw [kindR_eq, kindR_eq]
  cases Nat.beq (kindN k) (kindN k') with
  | false => rfl
  | true => exact opII_eq op k a b
theorem kkII_eq (P : Program) (t : TypeId) (x y : Operand) (g : Nat → Option Blk) (op : BinOp) (k k' : IntKind) (a b : Int) : kkII op k a k' b = effBin P op t x y (.int k a) (.int k' b) g := by
  cases op <;> first | exact sameK_eq _ _ _ _ _ | rfl
theorem eqR_eq (op : BinOp) (r : Bool) : eqR op r = (match op with
    | .eql => (some r).bind fun r => ret (.bool r)
    | .neq => (some r).bind fun r => ret (.bool !r)
    | _ => none : REZ) := by cases op <;> cases r <;> rfl
theorem ppK_eq (P : Program) (t : TypeId) (x y : Operand) (g : Nat → Option Blk) (op : BinOp) (p q : Option Addr) (ht : ptrT P t = true) : ppK p q op (effBin P op t x y (.pointer p) (.pointer q) g) = effBin P op t x y (.pointer p) (.pointer q) g := by
  have hu : ∃ e, P.underlying t = some (.pointer e) := by
    unfold ptrT at ht
    split at ht
    · exact ⟨_, by assumption⟩
    · cases ht
  obtain ⟨e, hu⟩ := hu
  cases p with
  | none =>
    show eqR op (noneA q) = _
    rw [eqR_eq]
    have hv : eqlV P t (.pointer none) (.pointer q) g = some (noneA q) := by
      unfold eqlV; rw [hu]; cases q <;> rfl
    cases op <;> first | rfl | (show _ = (eqlV P t (.pointer none) (.pointer q) g).bind _; rw [hv]; try rfl)
  | some p => cases q with
    | none =>
      show eqR op false = _
      rw [eqR_eq]
      have hv : eqlV P t (.pointer (some p)) (.pointer none) g = some false := by
        unfold eqlV; rw [hu]
      cases op <;> first | rfl | (show _ = (eqlV P t (.pointer (some p)) (.pointer none) g).bind _; rw [hv]; try rfl)
    | some q => rfl
theorem fBin_eq (op : BinOp) (t : TypeId) (x y : Operand) (P : Program) (a b : Value) (g : Nat → Option Blk) : fBin op t x y P a b g = effBin P op t x y a b g := by
  cases a with
  | int k n => cases b with
    | int k' n' => exact kkII_eq P t x y g op k k' n n'
    | _ => rfl
  | pointer p => cases b with
    | pointer q =>
      show bR (ptrT P t) _ _ = _
      cases ht : ptrT P t with
      | false => rfl
      | true => exact ppK_eq P t x y g op p q ht
    | _ => rfl
  | _ => rfl
theorem fLoad_eq (t : TypeId) (P : Program) (a : Value) (g : Nat → Option Blk) : fLoad t P a g = effLoad P t a g := by
  cases a with
  | pointer p => cases p with
    | none => rfl
    | some p =>
      obtain ⟨b, off, s⟩ := p
      cases s with
      | some s => rfl
      | none =>
        show blkO (g b) _ _ = _
        unfold effLoad
        simp only
        cases hb : g b with
        | none => rfl
        | some x => cases x with
          | cells xs n k =>
            show ldK (ldT P t) xs off n = _
            unfold ldT
            cases hu : P.underlying t with
            | none => rfl
            | some d =>
              simp only
              cases aggB (some d) with
              | true =>
                simp only [cond_true]
                cases P.info? t with
                | none => rfl
                | some i =>
                  show bR (Nat.ble (off + i.size) n) none (retV (.agg ⟨loadQ xs off i.size⟩)) = cond (Nat.ble (off + i.size) n) _ _
                  rw [loadQ_eq]
                  cases Nat.ble (off + i.size) n <;> rfl
              | false =>
                show bR (Nat.blt off n) _ _ = cond _ _ _
                rw [gPV_eq]
                cases Nat.blt off n with
                | false => rfl
                | true =>
                  show (@Option.rec Value (fun _ => REZ) none (fun v => retV v) (xs.get off)) = _
                  cases xs.get off <;> rfl
          | _ => rfl
  | _ => rfl
theorem fStore_eq (t : TypeId) (P : Program) (a x : Value) (g : Nat → Option Blk) : fStore t P a x g = effStore P t a x g := by
  cases a with
  | pointer p => cases p with
    | none => rfl
    | some p =>
      obtain ⟨b, off, s⟩ := p
      cases s with
      | some s => rfl
      | none =>
        show blkO (g b) _ _ = _
        unfold effStore
        simp only
        cases hb : g b with
        | none => rfl
        | some y => cases y with
          | cells xs n k =>
            have key : stV (cellsR x) (sizeT P t) b off xs n k = (match P.info? t, cellsOf x with
                | some i, some vs => cond (Nat.beq vs.length i.size) (cond (Nat.ble (off + i.size) n) (some ⟨undef, [(b, .cells (storeL xs off vs) n k)], []⟩) none) none
                | _, _ => none) := by
              rw [cellsR_eq]
              unfold sizeT
              cases P.info? t with
              | none => cases cellsOf x <;> rfl
              | some i => cases cellsOf x with
                | none => rfl
                | some vs =>
                  show bR (Nat.beq (lenR vs) i.size) _ _ = _
                  rw [lenR_eq, storeQ_eq]
                  simp only
                  cases Nat.beq vs.length i.size with
                  | false => rfl
                  | true =>
                    show bR (Nat.ble (off + i.size) n) _ _ = cond _ _ _
                    cases Nat.ble (off + i.size) n <;> rfl
            cases k with
            | ro => rfl
            | _ => exact key
          | _ => rfl
  | _ => rfl
theorem addA_eq (a : Addr) (n : Nat) : addA a n = a.add n := by
  cases n with
  | zero => rfl
  | succ n => rfl
theorem fField_eq (s : TypeId) (f : Nat) (P : Program) (x : Value) : fField s f P x = effField P s x f := by
  unfold effField
  cases x with
  | pointer p => cases p with
    | none => cases P.underlying s with
      | none => rfl
      | some d => cases d <;> rfl
    | some a =>
      show fldK (fldT P s f) a = _
      unfold fldT
      cases P.underlying s with
      | none => rfl
      | some d => cases d with
        | struct fields =>
          simp only
          cases fields.toList[f]? with
          | none => rfl
          | some f =>
            simp only
            cases P.info? f.type with
            | none => rfl
            | some i =>
              simp only
              cases Nat.beq i.size 0 with
              | true => rfl
              | false => show retV (.pointer (some (addA a f.offset))) = _; rw [addA_eq]; rfl
        | _ => rfl
  | _ => (cases P.underlying s with
      | none => rfl
      | some d => cases d <;> rfl)
theorem idxK_eq (a : Addr) (len s : Nat) (ix : Value) : idxK a len s ix = (match idx ix len with
    | some i => ret (.pointer (some (a.add (i * s))))
    | none => none) := by
  unfold idx
  cases ix with
  | int k i => cases i with
    | ofNat i =>
      show bR (Nat.blt i len) _ _ = _
      rw [addA_eq]
      simp only
      cases Nat.blt i len <;> rfl
    | negSucc i => rfl
  | _ => rfl
theorem fIdx_eq (t : TypeId) (P : Program) (x ix : Value) : fIdx t P x ix = effIdx P t x ix := by
  unfold effIdx
  cases x with
  | pointer p => cases p with
    | none => cases P.underlying t with
      | none => rfl
      | some d => cases d <;> rfl
    | some a =>
      show idxAK (idxAZ P t) a ix = _
      unfold idxAZ
      cases P.underlying t with
      | none => rfl
      | some d => cases d with
        | array len elem =>
          simp only
          cases sizeOf? P elem with
          | none => cases idx ix len <;> rfl
          | some s =>
            show idxK a len s ix = _
            rw [idxK_eq]
            cases idx ix len <;> rfl
        | _ => rfl
  | slice p len cap => cases p with
    | none => cases P.underlying t with
      | none => rfl
      | some d => cases d <;> rfl
    | some a =>
      show idxSK (idxS P t) a len ix = _
      unfold idxS
      cases P.underlying t with
      | none => rfl
      | some d => cases d with
        | slice elem =>
          simp only
          cases sizeOf? P elem with
          | none => cases idx ix len <;> rfl
          | some s =>
            show idxK a len s ix = _
            rw [idxK_eq]
            cases idx ix len <;> rfl
        | _ => rfl
  | _ => (cases P.underlying t with
      | none => rfl
      | some d => cases d <;> rfl)
theorem fExtract_eq (i : Nat) (t : Value) : fExtract i t = effExtract t i := by
  cases t with
  | tuple vs =>
    show (@Option.rec Value (fun _ => REZ) none (fun v => bR (storableR v) none (retV v)) vs.toList[i]?) = (match vs.toList[i]? with
      | some v => if storable v then ret v else none
      | none => none)
    cases vs.toList[i]? with
    | none => rfl
    | some v =>
      show bR (storableR v) none (retV v) = if storable v then ret v else none
      rw [storableR_eq]
      cases storable v <;> rfl
  | _ => rfl
theorem fNil_eq (P : Program) (x : Value) : fNil P x = effNil P x := by
  cases x with
  | pointer p => cases p <;> rfl
  | _ => rfl
theorem fConv_eq (s d : TypeId) (P : Program) (x : Value) (g : Nat → Option Blk) (nx : Nat) : fConv s d P x g nx = effConv P s d x g nx := by
  cases x with
  | int k n =>
    show cvK (cvT P s d) n (effConv P s d (.int k n) g nx) = _
    cases hc : cvT P s d with
    | none => rfl
    | some k' =>
      show retV (.int k' (wrapR k' n)) = _
      rw [wrapR_eq]
      unfold cvT at hc
      unfold effConv
      simp only
      split at hc
      · rename_i h1 h2
        cases hc
        rw [h1, h2]; rfl
      · cases hc
  | _ => rfl
/- ## Operations -/
noncomputable def wrQ (l : List (Nat × Blk)) (t : Trie Blk) : Trie Blk := @List.rec (Nat × Blk) (fun _ => Trie Blk → Trie Blk) (fun t => t) (fun x _ ih t => ih (sPB (path x.1) x.2 t)) l t
theorem wrQ_eq : ∀ (l : List (Nat × Blk)) (t : Trie Blk), wrQ l t = applyWr t l
  | [], _ => rfl
  | x :: r, t => by show wrQ r (sPB (path x.1) x.2 t) = _; rw [sPB_eq, wrQ_eq r]; rfl
noncomputable def nwQ (l : List Blk) (t : Trie Blk) (n : Nat) : Heap := @List.rec Blk (fun _ => Trie Blk → Nat → Heap) (fun t n => ⟨t, n⟩) (fun x _ ih t n => ih (sPB (path n) x t) (Nat.succ n)) l t n
theorem nwQ_eq : ∀ (l : List Blk) (t : Trie Blk) (n : Nat), nwQ l t n = applyNw t n l
  | [], _, _ => rfl
  | x :: r, t, n => by show nwQ r (sPB (path n) x t) (n + 1) = _; rw [sPB_eq, nwQ_eq r]; rfl
abbrev KRes := Env → Heap → Res
noncomputable def wrK (wr : List (Nat × Blk)) : Value → Option Tmp → KRes → Env → Heap → Res := @List.rec (Nat × Blk) (fun _ => Value → Option Tmp → KRes → Env → Heap → Res) (fun v d k e h => k (putQ d v e) h) (fun x r _ v d k e h => k (putQ d v e) ⟨wrQ (x :: r) h.t, h.nx⟩) wr
noncomputable def nwK (nw : List Blk) : List (Nat × Blk) → Value → Option Tmp → KRes → Env → Heap → Res := @List.rec Blk (fun _ => List (Nat × Blk) → Value → Option Tmp → KRes → Env → Heap → Res) (fun wr v d k e h => wrK wr v d k e h) (fun x r _ wr v d k e h => k (putQ d v e) (nwQ (x :: r) (wrQ wr h.t) h.nx)) nw
noncomputable def finE (f : Eff) : Option Tmp → KRes → Env → Heap → Res := @Eff.rec (fun _ => Option Tmp → KRes → Env → Heap → Res) (fun v wr nw d k e h => nwK nw wr v d k e h) f
theorem finE_eq (f : Eff) (d : Option Tmp) (k : KRes) (e : Env) (h : Heap) : finE f d k e h = k (e.put d f.val) (h.apply f) := by
  obtain ⟨v, wr, nw⟩ := f
  cases nw with
  | nil => cases wr with
    | nil => show k (putQ d v e) h = _; rw [putQ_eq]; rfl
    | cons x r => show k (putQ d v e) ⟨wrQ (x :: r) h.t, h.nx⟩ = _; rw [putQ_eq, wrQ_eq]; rfl
  | cons x r => show k (putQ d v e) (nwQ (x :: r) (wrQ wr h.t) h.nx) = _; rw [putQ_eq, wrQ_eq, nwQ_eq]; rfl
abbrev KDid := Env → Heap → DidRes
noncomputable def wrD' (wr : List (Nat × Blk)) : Value → Option Tmp → KDid → Env → Heap → DidRes := @List.rec (Nat × Blk) (fun _ => Value → Option Tmp → KDid → Env → Heap → DidRes) (fun v d k e h => k (putQ d v e) h) (fun x r _ v d k e h => k (putQ d v e) ⟨wrQ (x :: r) h.t, h.nx⟩) wr
noncomputable def nwD' (nw : List Blk) : List (Nat × Blk) → Value → Option Tmp → KDid → Env → Heap → DidRes := @List.rec Blk (fun _ => List (Nat × Blk) → Value → Option Tmp → KDid → Env → Heap → DidRes) (fun wr v d k e h => wrD' wr v d k e h) (fun x r _ wr v d k e h => k (putQ d v e) (nwQ (x :: r) (wrQ wr h.t) h.nx)) nw
noncomputable def finD (f : Eff) : Option Tmp → KDid → Env → Heap → DidRes := @Eff.rec (fun _ => Option Tmp → KDid → Env → Heap → DidRes) (fun v wr nw d k e h => nwD' nw wr v d k e h) f
theorem finD_eq (f : Eff) (d : Option Tmp) (k : KDid) (e : Env) (h : Heap) : finD f d k e h = k (e.put d f.val) (h.apply f) := by
  obtain ⟨v, wr, nw⟩ := f
  cases nw with
  | nil => cases wr with
    | nil => show k (putQ d v e) h = _; rw [putQ_eq]; rfl
    | cons x r => show k (putQ d v e) ⟨wrQ (x :: r) h.t, h.nx⟩ = _; rw [putQ_eq, wrQ_eq]; rfl
  | cons x r => show k (putQ d v e) (nwQ (x :: r) (wrQ wr h.t) h.nx) = _; rw [putQ_eq, wrQ_eq, nwQ_eq]; rfl
noncomputable def rFinQ (f : REZ) : Oper → KRes → Env → Heap → Res := @Option.rec Eff (fun _ => Oper → KRes → Env → Heap → Res) (fun _ _ _ _ => none) (fun f o k e h => finE f o.dst k e h) f
theorem rFinQ_eq (f : REZ) (o : Oper) (k : KRes) (e : Env) (h : Heap) : rFinQ f o k e h = rFin f o k e h := by
  cases f with
  | none => rfl
  | some f =>
    show finE f o.dst k e h = heapK Res f h (k (e.put o.dst f.val))
    rw [finE_eq, heapK_eq]
noncomputable def qFinQ (f : REZ) : Oper → KDid → Env → Heap → DidRes := @Option.rec Eff (fun _ => Oper → KDid → Env → Heap → DidRes) (fun _ _ _ _ => none) (fun f o k e h => qCons (.eff (foot o.op e.eval) f h.nx) (finD f o.dst k e h)) f
theorem qFinQ_eq (f : REZ) (o : Oper) (k : KDid) (e : Env) (h : Heap) : qFinQ f o k e h = qFin f o k e h := by
  cases f with
  | none => rfl
  | some f =>
    show qCons _ (finD f o.dst k e h) = qCons _ (heapK DidRes f h (k (e.put o.dst f.val)))
    rw [finD_eq, heapK_eq]
/- what an operation does -/
noncomputable def vB (v : Value) : (Bool → REZ) → REZ → REZ :=
  @Value.rec (fun _ => (Bool → REZ) → REZ → REZ) (fun _ => Unit) (fun _ => Unit) (fun b f _ => f b) (fun _ _ _ d => d) (fun _ _ _ d => d) (fun _ _ _ _ d => d) (fun _ _ d => d) (fun _ _ d => d) (fun _ _ _ _ d => d) (fun _ _ d => d) (fun _ _ d => d)
    (fun _ _ _ _ _ _ d => d) (fun _ d => d) (fun _ _ _ _ d => d) (fun _ d => d) (fun _ _ _ d => d) (fun _ _ _ d => d) (fun _ _ => ()) () (fun _ _ _ _ => ()) v
noncomputable def allocB (P : Program) (t : TypeId) : Option Blk := match zeroL P t with
  | some z => some (.cells (ofList z) z.length (cond (bldL z) (.bld t) .exact))
  | none => none
noncomputable def allocK (o : Option Blk) : Nat → REZ := @Option.rec Blk (fun _ => Nat → REZ) (fun _ => none) (fun x nx => some ⟨.pointer (some ⟨nx, 0, none⟩), [], [x]⟩) o
noncomputable def boxK (o : Option (List Value)) : Nat → REZ := @Option.rec (List Value) (fun _ => Nat → REZ) (fun _ => none) (fun z nx => some ⟨.pointer (some ⟨nx, 0, none⟩), [], [.cells (storeQ .leaf 0 z) (lenR z) .exact]⟩) o
noncomputable def q_moveZ (x : Operand) : EffT := fun _ e _ => retV (evalQ x e)
noncomputable def q_pickZ (c a b : Operand) : EffT := fun _ e _ => vB (evalQ c e) (fun t => bR t (retV (evalQ b e)) (retV (evalQ a e))) none
noncomputable def q_allocZ (t : TypeId) : EffT := fun P _ h => allocK (allocB P t) h.nx
noncomputable def q_boxZ (x : Operand) : EffT := fun _ e h => boxK (cellsR (evalQ x e)) h.nx
noncomputable def q_loadZ (t : TypeId) (a : Operand) : EffT := fun P e h => fLoad t P (evalQ a e) (getQ h)
noncomputable def q_storeZ (t : TypeId) (a x : Operand) : EffT := fun P e h => fStore t P (evalQ a e) (evalQ x e) (getQ h)
noncomputable def q_nil (x : Operand) : EffT := fun P e _ => fNil P (evalQ x e)
noncomputable def q_binZ (op : BinOp) (t : TypeId) (x y : Operand) : EffT := fun P e h => fBin op t x y P (evalQ x e) (evalQ y e) (getQ h)
noncomputable def q_convZ (s d : TypeId) (x : Operand) : EffT := fun P e h => fConv s d P (evalQ x e) (getQ h) h.nx
noncomputable def q_fieldAddrZ (t : TypeId) (x : Operand) (i : Nat) : EffT := fun P e _ => fField t i P (evalQ x e)
noncomputable def q_indexAddrZ (t : TypeId) (x i : Operand) : EffT := fun P e _ => fIdx t P (evalQ x e) (evalQ i e)
noncomputable def q_extractZ (t : Operand) (i : Nat) : EffT := fun _ e _ => fExtract i (evalQ t e)
noncomputable def q_gen (op : Op) : EffT := fun P e h => eff P op (fun x => evalQ x e) (getQ h) h.nx
theorem q_gen_eq (op : Op) (P : Program) (e : Env) (h : Heap) : q_gen op P e h = eff P op e.eval h.get h.nx := by unfold q_gen; rw [evalQ_eq, getQ_eq]
theorem q_move_eq (x : Operand) (P : Program) (e : Env) (h : Heap) : q_moveZ x P e h = ret (e.eval x) := by unfold q_moveZ; rw [evalQ_eq']; rfl
theorem q_pick_eq (c a b : Operand) (P : Program) (e : Env) (h : Heap) : q_pickZ c a b P e h = effPick (e.eval c) (e.eval a) (e.eval b) := by
  unfold q_pickZ
  rw [evalQ_eq', evalQ_eq', evalQ_eq']
  cases e.eval c with
  | bool t => cases t <;> rfl
  | _ => rfl
theorem q_alloc_eq (t : TypeId) (P : Program) (e : Env) (h : Heap) : q_allocZ t P e h = effAlloc P t h.nx := by
  unfold q_allocZ allocB effAlloc
  cases zeroL P t <;> rfl
theorem q_box_eq (x : Operand) (P : Program) (e : Env) (h : Heap) : q_boxZ x P e h = effBox (e.eval x) h.nx := by
  unfold q_boxZ effBox
  rw [evalQ_eq', cellsR_eq]
  cases cellsOf (e.eval x) with
  | none => rfl
  | some z =>
    show (some ⟨_, [], [.cells (storeQ .leaf 0 z) (lenR z) .exact]⟩ : REZ) = _
    rw [storeQ_eq, lenR_eq]; rfl
/- calls -/
noncomputable def mapQ (l : List Operand) (e : Env) : List Value := @List.rec Operand (fun _ => Env → List Value) (fun _ => []) (fun x _ ih e => evalQ x e :: ih e) l e
theorem mapQ_eq (e : Env) : ∀ l : List Operand, mapQ l e = l.map e.eval
  | [] => rfl
  | x :: r => by show evalQ x e :: mapQ r e = _; rw [evalQ_eq', mapQ_eq e r]; rfl
noncomputable def appQ (a b : List Value) : List Value := @List.rec Value (fun _ => List Value → List Value) (fun b => b) (fun x _ ih b => x :: ih b) a b
theorem appQ_eq : ∀ a b : List Value, appQ a b = a ++ b
  | [], _ => rfl
  | x :: r, b => by show x :: appQ r b = _; rw [appQ_eq r]; rfl
abbrev RC := Option (FuncId × List Value)
noncomputable def fnQ (f : Fn) : Array Value → Array Value → List Operand → Env → RC := @Fn.rec (fun _ => Array Value → Array Value → List Operand → Env → RC) (fun f a b l e => some (f, appQ (appQ a.toList (mapQ l e)) b.toList)) (fun _ _ _ _ _ => none) (fun _ _ _ _ _ _ => none) (fun _ _ _ _ _ _ _ _ => none) (fun _ _ _ _ _ => none) f
noncomputable def valQ (v : Value) : List Operand → Env → RC :=
  @Value.rec (fun _ => List Operand → Env → RC) (fun _ => Unit) (fun _ => Unit) (fun _ _ _ => none) (fun _ _ _ _ => none) (fun _ _ _ _ => none) (fun _ _ _ _ _ => none) (fun _ _ _ => none) (fun _ _ _ => none) (fun _ _ _ _ _ => none) (fun _ _ _ => none) (fun _ _ _ => none)
    (fun f a b _ _ l e => fnQ f a b l e) (fun _ _ => none) (fun _ _ _ _ _ => none) (fun _ _ => none) (fun _ _ _ _ => none) (fun _ _ _ _ => none) (fun _ _ => ()) () (fun _ _ _ _ => ()) v
def invT (P : Program) (t : TypeId) (name : String) : Option FuncId := match P.info? t with
  | some i => match i.methods.toList.find? (·.name == name), P.underlying t with
    | some m, some (.pointer _) => if m.path.toList.isEmpty then match m.func with
        | some (f, true) => some f
        | _ => none else none
    | _, _ => none
  | none => none
noncomputable def ptrC (v : Value) : FuncId → List Operand → Env → RC :=
  @Value.rec (fun _ => FuncId → List Operand → Env → RC) (fun _ => Unit) (fun _ => Unit) (fun _ _ _ _ => none) (fun _ _ _ _ _ => none) (fun _ _ _ _ _ => none) (fun _ _ _ _ _ _ => none) (fun _ _ _ _ => none) (fun a f l e => some (f, .pointer a :: mapQ l e)) (fun _ _ _ _ _ _ => none) (fun _ _ _ _ => none) (fun _ _ _ _ => none)
    (fun _ _ _ _ _ _ _ _ => none) (fun _ _ _ => none) (fun _ _ _ _ _ _ => none) (fun _ _ _ => none) (fun _ _ _ _ _ => none) (fun _ _ _ _ _ => none) (fun _ _ => ()) () (fun _ _ _ _ => ()) v
noncomputable def invKZ (o : Option FuncId) : Value → List Operand → Env → RC := @Option.rec FuncId (fun _ => Value → List Operand → Env → RC) (fun _ _ _ => none) (fun f v l e => ptrC v f l e) o
noncomputable def invQ (v : Value) : Program → String → List Operand → Env → RC :=
  @Value.rec (fun _ => Program → String → List Operand → Env → RC) (fun _ => Unit) (fun _ => Unit) (fun _ _ _ _ _ => none) (fun _ _ _ _ _ _ => none) (fun _ _ _ _ _ _ => none) (fun _ _ _ _ _ _ _ => none) (fun _ _ _ _ _ => none) (fun _ _ _ _ _ => none) (fun _ _ _ _ _ _ _ => none) (fun _ _ _ _ _ => none) (fun _ _ _ _ _ => none)
    (fun _ _ _ _ _ _ _ _ _ => none) (fun _ _ _ _ => none) (fun t v _ P n l e => invKZ (invT P t n) v l e) (fun _ _ _ _ => none) (fun _ _ _ _ _ _ => none) (fun _ _ _ _ _ _ => none) (fun _ _ => ()) () (fun _ _ _ _ => ()) v
noncomputable def calleeQ (c : Callee) : Program → List Operand → Env → RC := @Callee.rec (fun _ => Program → List Operand → Env → RC) (fun f _ l e => valQ (evalQ f e) l e) (fun r n P l e => invQ (evalQ r e) P n l e) (fun _ _ _ _ => none) c
theorem calleeQ_eq (P : Program) (c : Call) (e : Env) : calleeQ c.callee P c.args.toList e = callee P c e.eval := by
  obtain ⟨ce, as, ts⟩ := c
  cases ce with
  | value f =>
    show valQ (evalQ f e) as.toList e = _
    unfold callee
    simp only
    rw [evalQ_eq']
    cases e.eval f with
    | func fn a b => cases fn with
      | func f => show some (f, appQ (appQ a.toList (mapQ as.toList e)) b.toList) = _; rw [appQ_eq, appQ_eq, mapQ_eq]
      | _ => rfl
    | _ => rfl
  | invoke r n =>
    show invQ (evalQ r e) P n as.toList e = _
    unfold callee
    simp only
    rw [evalQ_eq']
    cases e.eval r with
    | iface t v =>
      show invKZ (invT P t n) v as.toList e = _
      unfold invT
      simp only
      cases P.info? t with
      | none => rfl
      | some i =>
        simp only
        cases i.methods.toList.find? (·.name == n) with
        | none => rfl
        | some m =>
          cases hu : P.underlying t with
          | none => cases v <;> rfl
          | some d => cases d with
            | pointer el =>
              simp only
              by_cases hp : m.path.toList.isEmpty = true
              · rw [if_pos hp]
                cases hf : m.func with
                | none => cases v <;> first | rfl | (simp only [hp, if_true, hf]; rfl)
                | some q =>
                  obtain ⟨f, b⟩ := q
                  cases b with
                  | true =>
                    cases v <;> first | rfl | (simp only [hp, if_true, hf]; rw [← mapQ_eq]; rfl)
                  | false => cases v <;> first | rfl | (simp only [hp, if_true, hf]; rfl)
              · rw [if_neg hp]
                cases v <;> first | rfl | (simp only [hp]; rfl)
            | _ => cases v <;> rfl
    | _ => rfl
  | builtin b => rfl
abbrev RO := Option (Out × Heap)
noncomputable def outK (o : Out) : Heap → Option Tmp → KRes → Env → Res := @Out.rec (fun _ => Heap → Option Tmp → KRes → Env → Res) (fun v h d k e => k (putQ d v e) h) (fun v h _ _ e => some (.pan v, e, h)) o
noncomputable def resC (r : RO) : Option Tmp → KRes → Env → Res := @Option.rec (Out × Heap) (fun _ => Option Tmp → KRes → Env → Res) (fun _ _ _ => none) (fun x d k e => outK x.1 x.2 d k e) r
theorem resC_eq (r : RO) (d : Option Tmp) (k : KRes) (e : Env) : resC r d k e = (match r with
    | some (.ret v, h') => k (e.put d v) h'
    | some (.pan v, h') => some (.pan v, e, h')
    | none => none) := by
  cases r with
  | none => rfl
  | some x =>
    obtain ⟨o, h⟩ := x
    cases o with
    | ret v => show k (putQ d v e) h = _; rw [putQ_eq]
    | pan v => rfl
noncomputable def callQ (cl : Caller) (x : RC) : Heap → Option Tmp → KRes → Env → Res := @Option.rec (FuncId × List Value) (fun _ => Caller → Heap → Option Tmp → KRes → Env → Res) (fun _ _ _ _ _ => none) (fun x cl h d k e => resC (callK cl x h) d k e) x cl
noncomputable def outD (o : Out) : Heap → Heap → Option Tmp → KDid → Env → DidRes := @Out.rec (fun _ => Heap → Heap → Option Tmp → KDid → Env → DidRes) (fun v h' h d k e => qCons (.call h h') (k (putQ d v e) h')) (fun _ _ _ _ _ _ => none) o
noncomputable def resD (r : RO) : Heap → Option Tmp → KDid → Env → DidRes := @Option.rec (Out × Heap) (fun _ => Heap → Option Tmp → KDid → Env → DidRes) (fun _ _ _ _ => none) (fun x h d k e => outD x.1 x.2 h d k e) r
noncomputable def callD (cl : Caller) (x : RC) : Heap → Option Tmp → KDid → Env → DidRes := @Option.rec (FuncId × List Value) (fun _ => Caller → Heap → Option Tmp → KDid → Env → DidRes) (fun _ _ _ _ _ => none) (fun x cl h d k e => resD (callK cl x h) h d k e) x cl
theorem callD_eq (cl : Caller) (x : RC) (h : Heap) (d : Option Tmp) (k : KDid) (e : Env) : callD cl x h d k e = (match x with
    | some x => match callK cl x h with
      | some (.ret v, h') => qCons (.call h h') (k (e.put d v) h')
      | _ => none
    | none => none) := by
  cases x with
  | none => rfl
  | some x =>
    show resD (callK cl x h) h d k e = _
    simp only
    cases callK cl x h with
    | none => rfl
    | some y =>
      obtain ⟨o, h'⟩ := y
      cases o with
      | ret v => show qCons (.call h h') (k (putQ d v e) h') = _; rw [putQ_eq]
      | pan v => rfl
/- builtins -/
noncomputable def arg1 (l : List Value) : (Value → REZ) → REZ → REZ := @List.rec Value (fun _ => (Value → REZ) → REZ → REZ) (fun _ d => d) (fun x r _ f d => @List.rec Value (fun _ => Value → (Value → REZ) → REZ → REZ) (fun x f _ => f x) (fun _ _ _ _ _ d => d) r x f d) l
noncomputable def arg2 (l : List Value) : (Value → Value → REZ) → REZ → REZ := @List.rec Value (fun _ => (Value → Value → REZ) → REZ → REZ) (fun _ d => d) (fun x r _ f d => @List.rec Value (fun _ => Value → (Value → Value → REZ) → REZ → REZ) (fun _ _ d => d) (fun y r _ x f d => @List.rec Value (fun _ => Value → Value → (Value → Value → REZ) → REZ → REZ) (fun x y f _ => f x y) (fun _ _ _ _ _ _ d => d) r x y f d) r x f d) l
def slT (P : Program) (ats : Array TypeId) : Bool := match ats.toList with
  | t :: _ => match P.underlying t with
    | some (.slice _) => true
    | _ => false
  | [] => false
noncomputable def b_lenZ (ats : Array TypeId) (args : List Value) (P : Program) (h : Heap) : REZ := arg1 args (fun x => vSP x (fun _ n _ => bR (slT P ats) (aLen P ats x (getQ h)) (retV (.int .i64 (.ofNat n)))) (fun _ => aLen P ats x (getQ h)) (aLen P ats x (getQ h))) none
theorem b_len_eq (ats : Array TypeId) (args : List Value) (P : Program) (h : Heap) : b_lenZ ats args P h = builtinEff P .len ats args h.get h.nx := by
  unfold b_lenZ builtinEff
  simp only
  cases args with
  | nil => rfl
  | cons x r => cases r with
    | cons y s => rfl
    | nil =>
      show vSP x _ _ _ = _
      rw [getQ_eq]
      cases x with
      | slice a n c =>
        show bR (slT P ats) _ _ = _
        cases hs : slT P ats with
        | false => rfl
        | true =>
          show retV _ = _
          unfold slT at hs
          unfold aLen
          split at hs
          · rename_i t r he
            split at hs
            · rename_i el hu
              simp only [he, hu]; rfl
            · cases hs
          · cases hs
      | _ => rfl
def apT (P : Program) (ats : Array TypeId) : Option (Nat × Nat × List Value × Nat) := match ats.toList with
  | [st, xt] => match P.underlying st, P.underlying xt with
    | _, some (.int _) => none
    | some (.slice elem), some _ => match P.info? elem, zeroL P elem with
      | some i, some z => if i.size = 0 ∨ z.length ≠ i.size then none else some (i.bytes, i.size, z, elem)
      | _, _ => none
    | _, _ => none
  | _ => none
noncomputable def lR (o : Option (List Value)) (f : List Value → REZ) : REZ := @Option.rec (List Value) (fun _ => (List Value → REZ) → REZ) (fun _ => none) (fun l f => f l) o f
noncomputable def obR (o : Option Bool) (f : Bool → REZ) : REZ := @Option.rec Bool (fun _ => (Bool → REZ) → REZ) (fun _ => none) (fun l f => f l) o f
noncomputable def fstQ (g : Nat → Option Blk) (size n : Nat) (a : Option Addr) : Option (List Value) := @Option.rec Addr (fun _ => Option (List Value)) none (fun a => @Option.rec Blk (fun _ => Option (List Value)) none (fun x => @Blk.rec (fun _ => Option (List Value)) (fun xs m _ => @Bool.rec (fun _ => Option (List Value)) none (some (loadQ xs a.off (n * size))) (Nat.ble (a.off + n * size) m)) (fun _ _ => none) (fun _ _ => none) (fun _ _ _ _ _ => none) (fun _ _ _ => none) (fun _ => none) none x) (g a.block)) a
noncomputable def firstQ (g : Nat → Option Blk) (size n : Nat) (x : Value) : Option (List Value) := @Bool.rec (fun _ => Option (List Value)) (firstL g size n x)
  (@Value.rec (fun _ => Option (List Value)) (fun _ => Unit) (fun _ => Unit) (fun _ => none) (fun _ _ => none) (fun _ _ => none) (fun _ _ _ => none) (fun _ => firstL g size n x) (fun _ => none) (fun a _ _ => @Option.rec Addr (fun _ => Option (List Value)) none (fun b => @Option.rec Nat (fun _ => Option (List Value)) (fstQ g size n (some b)) (fun _ => none) b.spot) a) (fun _ => none) (fun _ => none)
    (fun _ _ _ _ _ => none) none (fun _ _ _ => none) none (fun _ _ => none) (fun _ _ => none) (fun _ _ => ()) () (fun _ _ _ _ => ()) x) (Nat.blt 0 n)
theorem firstQ_eq (g : Nat → Option Blk) (size n : Nat) (x : Value) : firstQ g size n x = firstL g size n x := by
  cases n with
  | zero => rfl
  | succ n =>
    show (@Value.rec (fun _ => Option (List Value)) (fun _ => Unit) (fun _ => Unit) _ _ _ _ _ _ _ _ _ _ _ _ _ _ _ _ _ _ x : Option (List Value)) = firstS g size (n + 1) x
    cases x with
    | slice a l c => cases a with
      | none => rfl
      | some a =>
        obtain ⟨b, off, s⟩ := a
        cases s with
        | some s => rfl
        | none =>
          show fstQ g size (n + 1) (some ⟨b, off, none⟩) = _
          unfold fstQ firstS
          simp only
          cases g b with
          | none => rfl
          | some y => cases y with
            | cells xs m k =>
              simp only
              by_cases hle : off + (n + 1) * size ≤ m
              · rw [if_pos hle, Nat.ble_eq_true_of_le hle]
                show some (loadQ xs off ((n + 1) * size)) = _
                rw [loadQ_eq]
              · rw [if_neg hle]
                have : Nat.ble (off + (n + 1) * size) m = false := by
                  rw [← Bool.not_eq_true, Nat.ble_eq]; exact hle
                rw [this]
            | _ => rfl
    | _ => rfl
noncomputable def newQ (z : List Value) (el s nx n : Nat) (wr : List (Nat × Blk)) (k : Kind) (cs : List Value) : REZ := some ⟨.slice (some ⟨nx, 0, none⟩) n n, wr, [.cells (storeQ .leaf 0 cs) (lenR cs) k]⟩
noncomputable def apB (x : Option Blk) (P : Program) (z : List Value) (el size off b sLen sCap n nx : Nat) (cs : List Value) : REZ := blkO x (fun _ m k => obR (maybeRoom k (off + sCap * size) m size el off) fun t => bR t (newQ z el size nx (sLen + n) [] (newKind z el size) cs) (newQ z el size nx (sLen + n) [(b, .dead)] k cs)) none
noncomputable def apL (P : Program) (bytes size : Nat) (z : List Value) (el : Nat) (s x : Value) (base : Option Addr) (sLen sCap n : Nat) (g : Nat → Option Blk) (nx : Nat) (slow : REZ) : REZ :=
  bR (Nat.ble ((sLen + n) * (bytes + size + 1) * 4) (2 ^ 40)) none (bR (Nat.ble (sLen + n) sCap) (lR (firstQ g size n x) fun new => lR (firstQ g size sLen s) fun old => @Option.rec Addr (fun _ => REZ) (newQ z el size nx (sLen + n) [] (newKind z el size) (appQ old new)) (fun a => @Option.rec Nat (fun _ => REZ) (apB (g a.block) P z el size a.off a.block sLen sCap n nx (appQ old new)) (fun _ => none) a.spot) base) slow)
noncomputable def apK (o : Option (Nat × Nat × List Value × Nat)) (P : Program) (ats : Array TypeId) (s x : Value) (base : Option Addr) (sLen sCap n : Nat) (g : Nat → Option Blk) (nx : Nat) : REZ :=
  @Option.rec (Nat × Nat × List Value × Nat) (fun _ => REZ) (aAppend P ats s x g nx) (fun p => apL P p.1 p.2.1 p.2.2.1 p.2.2.2 s x base sLen sCap n g nx (aAppend P ats s x g nx)) o
noncomputable def b_appendZ (ats : Array TypeId) (args : List Value) (P : Program) (h : Heap) : REZ := arg2 args (fun s x => vSP s (fun base sLen sCap => @Option.rec Nat (fun _ => REZ) (aAppend P ats s x (getQ h) h.nx) (fun n => apK (apT P ats) P ats s x base sLen sCap n (getQ h) h.nx) (lenV x)) (fun _ => aAppend P ats s x (getQ h) h.nx) (aAppend P ats s x (getQ h) h.nx)) none
theorem b_append_eq (ats : Array TypeId) (args : List Value) (P : Program) (h : Heap) : b_appendZ ats args P h = builtinEff P .append ats args h.get h.nx := by
  have main : ∀ s x, vSP s (fun base sLen sCap => @Option.rec Nat (fun _ => REZ) (aAppend P ats s x h.get h.nx) (fun n => apK (apT P ats) P ats s x base sLen sCap n h.get h.nx) (lenV x)) (fun _ => aAppend P ats s x h.get h.nx) (aAppend P ats s x h.get h.nx) = aAppend P ats s x h.get h.nx := by
    intro s x
    cases s with
    | slice base sLen sCap =>
      show (@Option.rec Nat (fun _ => REZ) (aAppend P ats (.slice base sLen sCap) x h.get h.nx) (fun n => apK (apT P ats) P ats (.slice base sLen sCap) x base sLen sCap n h.get h.nx) (lenV x)) = _
      cases hl : lenV x with
      | none => rfl
      | some n =>
        show apK (apT P ats) P ats (.slice base sLen sCap) x base sLen sCap n h.get h.nx = _
        cases ht : apT P ats with
        | none => rfl
        | some p =>
          obtain ⟨bytes, size, z, el⟩ := p
          show apL P bytes size z el (.slice base sLen sCap) x base sLen sCap n h.get h.nx (aAppend P ats (.slice base sLen sCap) x h.get h.nx) = _
          -- the types
          unfold apT at ht
          split at ht <;> try (cases ht; done)
          rename_i st xt hats
          split at ht <;> try (cases ht; done)
          rename_i xt' elem u hni hst hxt
          split at ht <;> try (cases ht; done)
          rename_i i z' hi hz
          split at ht <;> try (cases ht; done)
          rename_i hg
          simp only [Option.some.injEq, Prod.mk.injEq] at ht
          obtain ⟨rfl, rfl, rfl, rfl⟩ := ht
          have hu : ∀ k, u ≠ .int k := fun k e => by subst e; exact hni k rfl
          by_cases hsz : (sLen + n) * (i.bytes + i.size + 1) * 4 ≤ 2 ^ 40
          · by_cases hc : sLen + n ≤ sCap
            · unfold apL
              rw [Nat.ble_eq_true_of_le hsz, Nat.ble_eq_true_of_le hc]; rfl
            · have hcond : ¬ ((sLen + n) * (i.bytes + i.size + 1) * 4 > 2 ^ 40 ∨ i.size = 0 ∨ z'.length ≠ i.size) := fun q => by
                rcases q with q | q
                · omega
                · exact hg q
              have e2 : Nat.ble (sLen + n) sCap = false := by rw [← Bool.not_eq_true, Nat.ble_eq]; exact hc
              have hA : aAppend P ats (.slice base sLen sCap) x h.get h.nx = (match firstL h.get i.size n x with
                  | none => none
                  | some new => match firstL h.get i.size sLen (.slice base sLen sCap) with
                    | none => none
                    | some old => match base with
                      | none => some ⟨.slice (some ⟨h.nx, 0, none⟩) (sLen + n) (sLen + n), [], [.cells (ofList (old ++ new)) (old ++ new).length (newKind z' elem i.size)]⟩
                      | some ⟨b, off, none⟩ => match h.get b with
                        | some (.cells _ m k) => match maybeRoom k (off + sCap * i.size) m i.size elem off with
                          | some true => some ⟨.slice (some ⟨h.nx, 0, none⟩) (sLen + n) (sLen + n), [(b, .dead)], [.cells (ofList (old ++ new)) (old ++ new).length k]⟩
                          | some false => some ⟨.slice (some ⟨h.nx, 0, none⟩) (sLen + n) (sLen + n), [], [.cells (ofList (old ++ new)) (old ++ new).length (newKind z' elem i.size)]⟩
                          | none => none
                        | _ => none
                      | _ => none) := by
                unfold aAppend
                rw [hats]
                simp only [hst, hxt]
                cases u with
                | int k => exact absurd rfl (hu k)
                | _ =>
                  simp only [hi, hz, hl]
                  rw [if_neg hcond]
                  cases firstL h.get i.size n x with
                  | none => rfl
                  | some new => simp only; rw [if_neg hc]; rfl
              rw [hA]
              unfold apL
              rw [Nat.ble_eq_true_of_le hsz, e2]
              show lR (firstQ h.get i.size n x) _ = _
              rw [firstQ_eq]
              cases firstL h.get i.size n x with
              | none => rfl
              | some new =>
                show lR (firstQ h.get i.size sLen (.slice base sLen sCap)) _ = _
                rw [firstQ_eq]
                cases firstL h.get i.size sLen (.slice base sLen sCap) with
                | none => rfl
                | some old =>
                  have hnew : ∀ wr k, newQ z' elem i.size h.nx (sLen + n) wr k (appQ old new) = some ⟨.slice (some ⟨h.nx, 0, none⟩) (sLen + n) (sLen + n), wr, [.cells (ofList (old ++ new)) (old ++ new).length k]⟩ := fun wr k => by
                    unfold newQ
                    rw [storeQ_eq, lenR_eq, appQ_eq]; rfl
                  cases base with
                  | none => exact hnew _ _
                  | some a =>
                    obtain ⟨b, off, sp⟩ := a
                    cases sp with
                    | some sp => rfl
                    | none =>
                      show apB (h.get b) P z' elem i.size off b sLen sCap n h.nx (appQ old new) = _
                      unfold apB
                      simp only
                      cases h.get b with
                      | none => rfl
                      | some y => cases y with
                        | cells xs m k =>
                          show obR (maybeRoom k (off + sCap * i.size) m i.size elem off) _ = _
                          simp only
                          cases maybeRoom k (off + sCap * i.size) m i.size elem off with
                          | none => rfl
                          | some t => cases t <;> exact hnew _ _
                        | _ => rfl
          · have hcond : ((sLen + n) * (i.bytes + i.size + 1) * 4 > 2 ^ 40 ∨ i.size = 0 ∨ z'.length ≠ i.size) := .inl (by omega)
            have e1 : Nat.ble ((sLen + n) * (i.bytes + i.size + 1) * 4) (2 ^ 40) = false := by rw [← Bool.not_eq_true, Nat.ble_eq]; exact hsz
            unfold apL
            rw [e1]
            show none = _
            unfold aAppend
            rw [hats]
            simp only [hst, hxt]
            cases u with
            | int k => exact absurd rfl (hu k)
            | _ =>
              simp only [hi, hz, hl]
              rw [if_pos hcond]
    | _ => rfl
  unfold b_appendZ builtinEff
  simp only
  cases args with
  | nil => rfl
  | cons s r => cases r with
    | nil => rfl
    | cons x r => cases r with
      | cons y q => rfl
      | nil => show vSP s _ _ _ = _; rw [getQ_eq]; exact main s x
noncomputable def bltQ (b : Builtin) : Array TypeId → List Value → Program → Heap → REZ := @Builtin.rec (fun _ => Array TypeId → List Value → Program → Heap → REZ) (fun ats l P h => b_appendZ ats l P h) (fun ats l P h => builtinEff P .cap ats l (getQ h) h.nx) (fun ats l P h => builtinEff P .clear ats l (getQ h) h.nx) (fun ats l P h => builtinEff P .close ats l (getQ h) h.nx) (fun ats l P h => builtinEff P .complex ats l (getQ h) h.nx) (fun ats l P h => builtinEff P .copy ats l (getQ h) h.nx) (fun ats l P h => builtinEff P .delete ats l (getQ h) h.nx)
  (fun ats l P h => builtinEff P .imag ats l (getQ h) h.nx) (fun ats l P h => b_lenZ ats l P h) (fun ats l P h => builtinEff P .make ats l (getQ h) h.nx) (fun ats l P h => builtinEff P .max ats l (getQ h) h.nx) (fun ats l P h => builtinEff P .min ats l (getQ h) h.nx) (fun ats l P h => builtinEff P .new ats l (getQ h) h.nx) (fun ats l P h => builtinEff P .panic ats l (getQ h) h.nx) (fun ats l P h => builtinEff P .print ats l (getQ h) h.nx) (fun ats l P h => builtinEff P .println ats l (getQ h) h.nx)
  (fun ats l P h => builtinEff P .real ats l (getQ h) h.nx) (fun ats l P h => builtinEff P .recover ats l (getQ h) h.nx) (fun ats l P h => builtinEff P .unsafeAdd ats l (getQ h) h.nx) (fun ats l P h => builtinEff P .unsafeSlice ats l (getQ h) h.nx) (fun ats l P h => builtinEff P .unsafeSliceData ats l (getQ h) h.nx) (fun ats l P h => builtinEff P .unsafeString ats l (getQ h) h.nx) (fun ats l P h => builtinEff P .unsafeStringData ats l (getQ h) h.nx)
  (fun ats l P h => builtinEff P .unsafeSizeof ats l (getQ h) h.nx) (fun ats l P h => builtinEff P .unsafeAlignof ats l (getQ h) h.nx) (fun ats l P h => builtinEff P .unsafeOffsetof ats l (getQ h) h.nx) b
theorem bltQ_eq (b : Builtin) (ats : Array TypeId) (l : List Value) (P : Program) (h : Heap) : bltQ b ats l P h = builtinEff P b ats l h.get h.nx := by
  cases b <;> first | exact b_append_eq ats l P h | exact b_len_eq ats l P h | (rw [← getQ_eq]; rfl)
noncomputable def r_callQ (c : Call) : RunT := @Callee.rec (fun _ => Call → RunT) (fun _ c P cl o k e h => callQ cl (calleeQ c.callee P c.args.toList e) h o.dst k e) (fun _ _ c P cl o k e h => callQ cl (calleeQ c.callee P c.args.toList e) h o.dst k e) (fun b c P _ o k e h => rFinQ (bltQ b c.argTypes (mapQ c.args.toList e) P h) o k e h) c.callee c
theorem r_callQ_eq (c : Call) (P : Program) (cl : Caller) (o : Oper) (k : KRes) (e : Env) (h : Heap) : r_callQ c P cl o k e h = r_call c P cl o k e h := by
  have go : callQ cl (calleeQ c.callee P c.args.toList e) h o.dst k e = (match callee P c e.eval with
      | some x => match callK cl x h with
        | some (.ret v, h') => k (e.put o.dst v) h'
        | some (.pan v, h') => some (.pan v, e, h')
        | none => none
      | none => none) := by
    rw [calleeQ_eq]
    cases callee P c e.eval with
    | none => rfl
    | some x => exact resC_eq _ _ _ _
  obtain ⟨ce, as, ts⟩ := c
  unfold r_callQ r_call
  cases ce with
  | value f => exact go
  | invoke r n => exact go
  | builtin b =>
    show rFinQ (bltQ b ts (mapQ as.toList e) P h) o k e h = rFin _ o k e h
    rw [rFinQ_eq, bltQ_eq, mapQ_eq]
noncomputable def d_callQ (c : Call) : QT := @Callee.rec (fun _ => Call → QT) (fun _ c P cl o k e h => callD cl (calleeQ c.callee P c.args.toList e) h o.dst k e) (fun _ _ c P cl o k e h => callD cl (calleeQ c.callee P c.args.toList e) h o.dst k e) (fun b c P _ o k e h => qFinQ (bltQ b c.argTypes (mapQ c.args.toList e) P h) o k e h) c.callee c
theorem d_callQ_eq (c : Call) (P : Program) (cl : Caller) (o : Oper) (k : KDid) (e : Env) (h : Heap) : d_callQ c P cl o k e h = q_call c P cl o k e h := by
  obtain ⟨ce, as, ts⟩ := c
  unfold d_callQ q_call
  cases ce with
  | value f =>
    show callD cl (calleeQ (Call.mk (.value f) as ts).callee P (Call.mk (.value f) as ts).args.toList e) h o.dst k e = _
    rw [calleeQ_eq, callD_eq]; rfl
  | invoke r n =>
    show callD cl (calleeQ (Call.mk (.invoke r n) as ts).callee P (Call.mk (.invoke r n) as ts).args.toList e) h o.dst k e = _
    rw [calleeQ_eq, callD_eq]; rfl
  | builtin b =>
    show qFinQ (bltQ b ts (mapQ as.toList e) P h) o k e h = qFin (eff P (.call ⟨.builtin b, as, ts⟩) e.eval h.get h.nx) o k e h
    rw [qFinQ_eq, bltQ_eq, mapQ_eq]; rfl
noncomputable def rEQ (f : EffT) : RunT := fun P _ o k e h => rFinQ (f P e h) o k e h
noncomputable def qEQ (f : EffT) : QT := fun P _ o k e h => qFinQ (f P e h) o k e h
noncomputable def rGoQ (op : Op) : RunT := @Op.rec (fun _ => RunT) (fun x => rEQ (q_moveZ x)) (fun x => rEQ (q_moveZ x)) (fun c a b => rEQ (q_pickZ c a b)) (fun t => rEQ (q_allocZ t)) (fun _ x => rEQ (q_boxZ x)) (fun t ps => rEQ (q_gen (.build t ps))) (fun t n ps => rEQ (q_gen (.buildSlice t n ps))) (fun t m k x => rEQ (q_gen (.insert t m k x))) (fun t a => rEQ (q_loadZ t a)) (fun t a x => rEQ (q_storeZ t a x)) (fun g => rEQ (q_gen (.ready g))) (fun g => rEQ (q_gen (.waits g))) (fun x => rEQ (q_nil x)) (fun op t x y _ => rEQ (q_binZ op t x y)) (fun op t x => rEQ (q_gen (.unOp op t x))) (fun s d x => rEQ (q_convZ s d x)) (fun d x => rEQ (q_gen (.sliceToArrayPointer d x))) (fun t x => rEQ (q_gen (.makeInterface t x))) (fun f a b => rEQ (q_gen (.makeFunc f a b))) (fun t r => rEQ (q_gen (.makeMap t r))) (fun t s => rEQ (q_gen (.makeChan t s))) (fun t l c => rEQ (q_gen (.makeSlice t l c))) (fun t x lo hi mx => rEQ (q_gen (.slice t x lo hi mx))) (fun t x i => rEQ (q_fieldAddrZ t x i)) (fun t x i => rEQ (q_gen (.field t x i))) (fun t x i => rEQ (q_indexAddrZ t x i)) (fun t x i => rEQ (q_gen (.index t x i))) (fun t m k ok => rEQ (q_gen (.lookup t m k ok))) (fun t m k x => rEQ (q_gen (.mapUpdate t m k x))) (fun t m k => rEQ (q_gen (.mapEntry t m k))) (fun t m s x => rEQ (q_gen (.entryStore t m s x))) (fun t x => rEQ (q_gen (.range t x))) (fun i s => rEQ (q_gen (.next i s))) r_entry (fun x t a ok => rEQ (q_gen (.typeAssert x t a ok))) (fun t i => rEQ (q_extractZ t i)) r_callQ (fun c => rEQ (q_gen (.go c))) (fun c => rEQ (q_gen (.defer c))) r_panic (fun c x => rEQ (q_gen (.send c x))) (fun t c ok => rEQ (q_gen (.recv t c ok))) (fun cs b => rEQ (q_gen (.select cs b))) op
noncomputable def qGoQ (op : Op) : QT := @Op.rec (fun _ => QT) (fun x => qEQ (q_moveZ x)) (fun x => qEQ (q_moveZ x)) (fun c a b => qEQ (q_pickZ c a b)) (fun t => qEQ (q_allocZ t)) (fun _ x => qEQ (q_boxZ x)) (fun t ps => qEQ (q_gen (.build t ps))) (fun t n ps => qEQ (q_gen (.buildSlice t n ps))) (fun t m k x => qEQ (q_gen (.insert t m k x))) (fun t a => qEQ (q_loadZ t a)) (fun t a x => qEQ (q_storeZ t a x)) (fun g => qEQ (q_gen (.ready g))) (fun g => qEQ (q_gen (.waits g))) (fun x => qEQ (q_nil x)) (fun op t x y _ => qEQ (q_binZ op t x y)) (fun op t x => qEQ (q_gen (.unOp op t x))) (fun s d x => qEQ (q_convZ s d x)) (fun d x => qEQ (q_gen (.sliceToArrayPointer d x))) (fun t x => qEQ (q_gen (.makeInterface t x))) (fun f a b => qEQ (q_gen (.makeFunc f a b))) (fun t r => qEQ (q_gen (.makeMap t r))) (fun t s => qEQ (q_gen (.makeChan t s))) (fun t l c => qEQ (q_gen (.makeSlice t l c))) (fun t x lo hi mx => qEQ (q_gen (.slice t x lo hi mx))) (fun t x i => qEQ (q_fieldAddrZ t x i)) (fun t x i => qEQ (q_gen (.field t x i))) (fun t x i => qEQ (q_indexAddrZ t x i)) (fun t x i => qEQ (q_gen (.index t x i))) (fun t m k ok => qEQ (q_gen (.lookup t m k ok))) (fun t m k x => qEQ (q_gen (.mapUpdate t m k x))) (fun t m k => qEQ (q_gen (.mapEntry t m k))) (fun t m s x => qEQ (q_gen (.entryStore t m s x))) (fun t x => qEQ (q_gen (.range t x))) (fun i s => qEQ (q_gen (.next i s))) (fun x => qEQ (q_gen (.entry x))) (fun x t a ok => qEQ (q_gen (.typeAssert x t a ok))) (fun t i => qEQ (q_extractZ t i)) d_callQ (fun c => qEQ (q_gen (.go c))) (fun c => qEQ (q_gen (.defer c))) (fun x => qEQ (q_gen (.panic x))) (fun c x => qEQ (q_gen (.send c x))) (fun t c ok => qEQ (q_gen (.recv t c ok))) (fun cs b => qEQ (q_gen (.select cs b))) op
theorem rGoQ_eq (op : Op) (P : Program) (cl : Caller) (o : Oper) (k : KRes) (e : Env) (h : Heap) : rGoQ op P cl o k e h = rGo op P cl o k e h := by
  have fin : ∀ (f : REZ) (f' : REZ), f = f' → rFinQ f o k e h = rFin f' o k e h := fun f f' q => by rw [rFinQ_eq, q]
  cases op with
  | call c => exact r_callQ_eq c P cl o k e h
  | panic x => rfl
  | entry x => rfl
  | move x => exact fin _ _ (q_move_eq x P e h)
  | assign x => exact fin _ _ (q_move_eq x P e h)
  | pick c a b => exact fin _ _ (q_pick_eq c a b P e h)
  | alloc t => exact fin _ _ (q_alloc_eq t P e h)
  | box t x => exact fin _ _ (q_box_eq x P e h)
  | load t a => exact fin _ _ (by unfold q_loadZ e_load; rw [evalQ_eq', getQ_eq, fLoad_eq])
  | store t a x => exact fin _ _ (by unfold q_storeZ e_store; rw [evalQ_eq', evalQ_eq', getQ_eq, fStore_eq])
  | nilCheck x => exact fin _ _ (by unfold q_nil e_nilCheck; rw [evalQ_eq', fNil_eq])
  | binOp op t x y u => exact fin _ _ (by unfold q_binZ e_binOp; rw [evalQ_eq', evalQ_eq', getQ_eq, fBin_eq])
  | convert s d x => exact fin _ _ (by unfold q_convZ e_convert; rw [evalQ_eq', getQ_eq, fConv_eq])
  | fieldAddr t x i => exact fin _ _ (by unfold q_fieldAddrZ e_fieldAddr; rw [evalQ_eq', fField_eq])
  | indexAddr t x i => exact fin _ _ (by unfold q_indexAddrZ e_indexAddr; rw [evalQ_eq', evalQ_eq', fIdx_eq])
  | extract t i => exact fin _ _ (by unfold q_extractZ e_extract; rw [evalQ_eq', fExtract_eq])
  | ready g => (show rFinQ (q_gen (.ready g) P e h) o k e h = _; rw [rFinQ_eq, q_gen_eq]; rfl)
  | waits g => (show rFinQ (q_gen (.waits g) P e h) o k e h = _; rw [rFinQ_eq, q_gen_eq]; rfl)
  | makeFunc f a b => (show rFinQ (q_gen (.makeFunc f a b) P e h) o k e h = _; rw [rFinQ_eq, q_gen_eq]; rfl)
  | makeChan t s => (show rFinQ (q_gen (.makeChan t s) P e h) o k e h = _; rw [rFinQ_eq, q_gen_eq]; rfl)
  | mapEntry t m k2 => (show rFinQ (q_gen (.mapEntry t m k2) P e h) o k e h = _; rw [rFinQ_eq, q_gen_eq]; rfl)
  | entryStore t m s x => (show rFinQ (q_gen (.entryStore t m s x) P e h) o k e h = _; rw [rFinQ_eq, q_gen_eq]; rfl)
  | go c => (show rFinQ (q_gen (.go c) P e h) o k e h = _; rw [rFinQ_eq, q_gen_eq]; rfl)
  | defer c => (show rFinQ (q_gen (.defer c) P e h) o k e h = _; rw [rFinQ_eq, q_gen_eq]; rfl)
  | send c x => (show rFinQ (q_gen (.send c x) P e h) o k e h = _; rw [rFinQ_eq, q_gen_eq]; rfl)
  | recv t c ok => (show rFinQ (q_gen (.recv t c ok) P e h) o k e h = _; rw [rFinQ_eq, q_gen_eq]; rfl)
  | select cs b => (show rFinQ (q_gen (.select cs b) P e h) o k e h = _; rw [rFinQ_eq, q_gen_eq]; rfl)
  | _ => (show rFinQ (q_gen _ P e h) o k e h = _; rw [rFinQ_eq, q_gen_eq]; rfl)
theorem qGoQ_eq (op : Op) (P : Program) (cl : Caller) (o : Oper) (k : KDid) (e : Env) (h : Heap) : qGoQ op P cl o k e h = qGo op P cl o k e h := by
  have fin : ∀ (f : REZ) (f' : REZ), f = f' → qFinQ f o k e h = qFin f' o k e h := fun f f' q => by rw [qFinQ_eq, q]
  cases op with
  | call c => exact d_callQ_eq c P cl o k e h
  | move x => exact fin _ _ (q_move_eq x P e h)
  | assign x => exact fin _ _ (q_move_eq x P e h)
  | pick c a b => exact fin _ _ (q_pick_eq c a b P e h)
  | alloc t => exact fin _ _ (q_alloc_eq t P e h)
  | box t x => exact fin _ _ (q_box_eq x P e h)
  | load t a => exact fin _ _ (by unfold q_loadZ e_load; rw [evalQ_eq', getQ_eq, fLoad_eq])
  | store t a x => exact fin _ _ (by unfold q_storeZ e_store; rw [evalQ_eq', evalQ_eq', getQ_eq, fStore_eq])
  | nilCheck x => exact fin _ _ (by unfold q_nil e_nilCheck; rw [evalQ_eq', fNil_eq])
  | binOp op t x y u => exact fin _ _ (by unfold q_binZ e_binOp; rw [evalQ_eq', evalQ_eq', getQ_eq, fBin_eq])
  | convert s d x => exact fin _ _ (by unfold q_convZ e_convert; rw [evalQ_eq', getQ_eq, fConv_eq])
  | fieldAddr t x i => exact fin _ _ (by unfold q_fieldAddrZ e_fieldAddr; rw [evalQ_eq', fField_eq])
  | indexAddr t x i => exact fin _ _ (by unfold q_indexAddrZ e_indexAddr; rw [evalQ_eq', evalQ_eq', fIdx_eq])
  | extract t i => exact fin _ _ (by unfold q_extractZ e_extract; rw [evalQ_eq', fExtract_eq])
  | ready g => (show qFinQ (q_gen (.ready g) P e h) o k e h = _; rw [qFinQ_eq, q_gen_eq]; rfl)
  | waits g => (show qFinQ (q_gen (.waits g) P e h) o k e h = _; rw [qFinQ_eq, q_gen_eq]; rfl)
  | makeFunc f a b => (show qFinQ (q_gen (.makeFunc f a b) P e h) o k e h = _; rw [qFinQ_eq, q_gen_eq]; rfl)
  | makeChan t s => (show qFinQ (q_gen (.makeChan t s) P e h) o k e h = _; rw [qFinQ_eq, q_gen_eq]; rfl)
  | mapEntry t m k2 => (show qFinQ (q_gen (.mapEntry t m k2) P e h) o k e h = _; rw [qFinQ_eq, q_gen_eq]; rfl)
  | entryStore t m s x => (show qFinQ (q_gen (.entryStore t m s x) P e h) o k e h = _; rw [qFinQ_eq, q_gen_eq]; rfl)
  | go c => (show qFinQ (q_gen (.go c) P e h) o k e h = _; rw [qFinQ_eq, q_gen_eq]; rfl)
  | defer c => (show qFinQ (q_gen (.defer c) P e h) o k e h = _; rw [qFinQ_eq, q_gen_eq]; rfl)
  | send c x => (show qFinQ (q_gen (.send c x) P e h) o k e h = _; rw [qFinQ_eq, q_gen_eq]; rfl)
  | recv t c ok => (show qFinQ (q_gen (.recv t c ok) P e h) o k e h = _; rw [qFinQ_eq, q_gen_eq]; rfl)
  | select cs b => (show qFinQ (q_gen (.select cs b) P e h) o k e h = _; rw [qFinQ_eq, q_gen_eq]; rfl)
  | panic x => (show qFinQ (q_gen (.panic x) P e h) o k e h = _; rw [qFinQ_eq, q_gen_eq]; rfl)
  | entry x => (show qFinQ (q_gen (.entry x) P e h) o k e h = _; rw [qFinQ_eq, q_gen_eq]; rfl)
  | _ => (show qFinQ (q_gen _ P e h) o k e h = _; rw [qFinQ_eq, q_gen_eq]; rfl)
/- guards -/
noncomputable def nthQ (l : List Oper) : Nat → Option Oper := @List.rec Oper (fun _ => Nat → Option Oper) (fun _ => none) (fun o _ ih n => @Nat.rec (fun _ => Oper → (Nat → Option Oper) → Option Oper) (fun o _ => some o) (fun m _ _ ih => ih m) n o ih) l
theorem nthQ_eq : ∀ (l : List Oper) (n : Nat), nthQ l n = l[n]?
  | [], _ => by simp; rfl
  | o :: r, 0 => rfl
  | o :: r, n + 1 => by show nthQ r n = _; rw [nthQ_eq r n, List.getElem?_cons_succ]
noncomputable def dstQ (l : List Oper) (j : Nat) : Option Tmp := @Option.rec Oper (fun _ => Option Tmp) none (fun o => o.dst) (nthQ l j)
theorem dstQ_eq (l : List Oper) (j : Nat) : dstQ l j = (l[j]?).bind (·.dst) := by unfold dstQ; rw [nthQ_eq]; cases l[j]? <;> rfl
noncomputable def wantK (b want : Bool) : Res → Res → Res := @Bool.rec (fun _ => Bool → Res → Res → Res) (fun w s r => @Bool.rec (fun _ => Res → Res → Res) (fun _ r => r) (fun s _ => s) w s r) (fun w s r => @Bool.rec (fun _ => Res → Res → Res) (fun s _ => s) (fun _ r => r) w s r) b want
noncomputable def gvK (v : Value) : Bool → Res → Res → Res :=
  @Value.rec (fun _ => Bool → Res → Res → Res) (fun _ => Unit) (fun _ => Unit) (fun b w s r => wantK b w s r) (fun _ _ _ s _ => s) (fun _ _ _ s _ => s) (fun _ _ _ _ s _ => s) (fun _ _ s _ => s) (fun _ _ s _ => s) (fun _ _ _ _ s _ => s) (fun _ _ s _ => s) (fun _ _ _ _ => none)
    (fun _ _ _ _ _ _ s _ => s) (fun _ s _ => s) (fun _ _ _ _ s _ => s) (fun _ s _ => s) (fun _ _ _ s _ => s) (fun c _ _ s _ => @Bool.rec (fun _ => Res) none s c.toList.isEmpty) (fun _ _ => ()) () (fun _ _ _ _ => ()) v
noncomputable def gdK (d : Option Tmp) : Env → Bool → Res → Res → Res := @Option.rec Tmp (fun _ => Env → Bool → Res → Res → Res) (fun _ _ s _ => s) (fun d e w s r => gvK (atQ e d) w s r) d
noncomputable def rOpenQ : Program → Caller → List Oper → Oper → KRes → Env → Heap → Res := fun P cl _ o k e h => rGoQ o.op P cl o k e h
noncomputable def rGuardQ : (Nat × Bool) → Program → Caller → List Oper → Oper → KRes → Env → Heap → Res := fun g P cl all o k e h => gdK (dstQ all g.1) e g.2 (k (putQ o.dst undef e) h) (rGoQ o.op P cl o k e h)
noncomputable def runOpQ (P : Program) (cl : Caller) (all : List Oper) (o : Oper) (k : KRes) (e : Env) (h : Heap) : Res := @Option.rec (Nat × Bool) (fun _ => Program → Caller → List Oper → Oper → KRes → Env → Heap → Res) rOpenQ rGuardQ o.guard P cl all o k e h
theorem runOpQ_eq (P : Program) (cl : Caller) (all : List Oper) (o : Oper) (k : KRes) (e : Env) (h : Heap) : runOpQ P cl all o k e h = runOp P cl all o k e h := by
  obtain ⟨dst, op, type, pos, after, guard⟩ := o
  cases guard with
  | none => exact rGoQ_eq op P cl _ k e h
  | some g =>
    obtain ⟨j, want⟩ := g
    show gdK (dstQ all j) e want (k (putQ dst undef e) h) (rGoQ op P cl _ k e h) = (Bool.rec none (Bool.rec (k (e.put dst undef) h) (rGo op P cl _ k e h) (wantedA all e ⟨dst, op, type, pos, after, some (j, want)⟩)) (guardOk all e ⟨dst, op, type, pos, after, some (j, want)⟩) : Res)
    rw [putQ_eq, rGoQ_eq, dstQ_eq]
    unfold wantedA guardOk
    simp only
    cases (all[j]?).bind (·.dst) with
    | none => rfl
    | some d =>
      show gvK (atQ e d) want _ _ = _
      rw [atQ_eq]
      simp only
      cases e.at d with
      | bool b => cases b <;> cases want <;> rfl
      | tuple c => show (@Bool.rec (fun _ => Res) none _ c.toList.isEmpty) = _; cases hc : c.toList.isEmpty <;> simp only [hc]
      | _ => rfl
noncomputable def runOpsQ (P : Program) (cl : Caller) (all : List Oper) (l : List Oper) : KRes := @List.rec Oper (fun _ => KRes) (fun e h => some (.normal, e, h)) (fun o _ ih e h => runOpQ P cl all o ih e h) l
theorem runOpsQ_eq (P : Program) (cl : Caller) (all : List Oper) : ∀ l : List Oper, runOpsQ P cl all l = runOps P cl all l
  | [] => rfl
  | o :: r => by
    funext e h
    show runOpQ P cl all o (runOpsQ P cl all r) e h = runOp P cl all o (runOps P cl all r) e h
    rw [runOpQ_eq, runOpsQ_eq P cl all r]
/- regions in open order -/
noncomputable def wantD (b want : Bool) : DidRes → DidRes → DidRes := @Bool.rec (fun _ => Bool → DidRes → DidRes → DidRes) (fun w s r => @Bool.rec (fun _ => DidRes → DidRes → DidRes) (fun _ r => r) (fun s _ => s) w s r) (fun w s r => @Bool.rec (fun _ => DidRes → DidRes → DidRes) (fun s _ => s) (fun _ r => r) w s r) b want
noncomputable def gvD (v : Value) : Bool → DidRes → DidRes → DidRes :=
  @Value.rec (fun _ => Bool → DidRes → DidRes → DidRes) (fun _ => Unit) (fun _ => Unit) (fun b w s r => wantD b w s r) (fun _ _ _ s _ => s) (fun _ _ _ s _ => s) (fun _ _ _ _ s _ => s) (fun _ _ s _ => s) (fun _ _ s _ => s) (fun _ _ _ _ s _ => s) (fun _ _ s _ => s) (fun _ _ _ _ => none)
    (fun _ _ _ _ _ _ s _ => s) (fun _ s _ => s) (fun _ _ _ _ s _ => s) (fun _ s _ => s) (fun _ _ _ s _ => s) (fun c _ _ s _ => @Bool.rec (fun _ => DidRes) none s c.toList.isEmpty) (fun _ _ => ()) () (fun _ _ _ _ => ()) v
noncomputable def gdD (d : Option Tmp) : Env → Bool → DidRes → DidRes → DidRes := @Option.rec Tmp (fun _ => Env → Bool → DidRes → DidRes → DidRes) (fun _ _ s _ => s) (fun d e w s r => gvD (atQ e d) w s r) d
noncomputable def qOpenQ : Program → Caller → List Oper → Oper → KDid → Env → Heap → DidRes := fun P cl _ o k e h => qGoQ o.op P cl o k e h
noncomputable def qGuardQ : (Nat × Bool) → Program → Caller → List Oper → Oper → KDid → Env → Heap → DidRes := fun g P cl all o k e h => gdD (dstQ all g.1) e g.2 (qCons .skip (k (putQ o.dst undef e) h)) (qGoQ o.op P cl o k e h)
noncomputable def runDQ (P : Program) (cl : Caller) (all : List Oper) (l : List Oper) : KDid := @List.rec Oper (fun _ => KDid) (fun e h => some (e, h, [])) (fun o _ ih e h => @Option.rec (Nat × Bool) (fun _ => Program → Caller → List Oper → Oper → KDid → Env → Heap → DidRes) qOpenQ qGuardQ o.guard P cl all o ih e h) l
theorem runDQ_eq (P : Program) (cl : Caller) (all : List Oper) : ∀ l : List Oper, runDQ P cl all l = runRec P cl all l
  | [] => rfl
  | o :: r => by
    funext e h
    have ih := runDQ_eq P cl all r
    obtain ⟨dst, op, type, pos, after, guard⟩ := o
    cases guard with
    | none =>
      show qGoQ op P cl _ (runDQ P cl all r) e h = qGo op P cl _ (runRec P cl all r) e h
      rw [qGoQ_eq, ih]
    | some g =>
      obtain ⟨j, want⟩ := g
      show gdD (dstQ all j) e want (qCons .skip (runDQ P cl all r (putQ dst undef e) h)) (qGoQ op P cl _ (runDQ P cl all r) e h) = (Bool.rec none (Bool.rec (qCons .skip (runRec P cl all r (e.put dst undef) h)) (qGo op P cl _ (runRec P cl all r) e h) (wantedA all e ⟨dst, op, type, pos, after, some (j, want)⟩)) (guardOk all e ⟨dst, op, type, pos, after, some (j, want)⟩) : DidRes)
      rw [putQ_eq, qGoQ_eq, dstQ_eq, ih]
      unfold wantedA guardOk
      simp only
      cases (all[j]?).bind (·.dst) with
      | none => rfl
      | some d =>
        show gvD (atQ e d) want _ _ = _
        rw [atQ_eq]
        simp only
        cases e.at d with
        | bool b => cases b <;> cases want <;> rfl
        | tuple c => show (@Bool.rec (fun _ => DidRes) none _ c.toList.isEmpty) = _; cases hc : c.toList.isEmpty <;> simp only [hc]
        | _ => rfl
noncomputable def nthD (l : List Did) : Nat → Option Did := @List.rec Did (fun _ => Nat → Option Did) (fun _ => none) (fun o _ ih n => @Nat.rec (fun _ => Did → (Nat → Option Did) → Option Did) (fun o _ => some o) (fun m _ _ ih => ih m) n o ih) l
theorem nthD_eq : ∀ (l : List Did) (n : Nat), nthD l n = l[n]?
  | [], _ => by simp; rfl
  | o :: r, 0 => rfl
  | o :: r, n + 1 => by show nthD r n = _; rw [nthD_eq r n, List.getElem?_cons_succ]
noncomputable def pairQZ (a b : Option Did) : Bool := @Option.rec Did (fun _ => Option Did → Bool) (fun _ => true) (fun x b => @Option.rec Did (fun _ => Did → Bool) (fun _ => true) (fun y x => swapOk x y) b x) a b
noncomputable def pairsQ (ps : List (Nat × Nat)) (l : List Did) : Bool := @List.rec (Nat × Nat) (fun _ => List Did → Bool) (fun _ => true) (fun p _ ih l => @Bool.rec (fun _ => Bool) false (ih l) (pairQZ (nthD l p.1) (nthD l p.2))) ps l
theorem pairsQ_eq (l : List Did) : ∀ ps : List (Nat × Nat), pairsQ ps l = ps.all fun p => match l[p.1]?, l[p.2]? with
    | some x, some y => swapOk x y
    | _, _ => true
  | [] => rfl
  | p :: r => by
    show (@Bool.rec (fun _ => Bool) false (pairsQ r l) (pairQZ (nthD l p.1) (nthD l p.2))) = _
    rw [pairsQ_eq l r, nthD_eq, nthD_eq, List.all_cons]
    cases l[p.1]? with
    | none => rfl
    | some x => cases l[p.2]? with
      | none => rfl
      | some y => show (@Bool.rec (fun _ => Bool) false _ (swapOk x y)) = _; simp only; cases swapOk x y <;> rfl
noncomputable def drawK (b : Bool) (e : Env) (h : Heap) : Res := @Bool.rec (fun _ => Res) none (some (.normal, e, h)) b
noncomputable def drawR (r : DidRes) : List (Nat × Nat) → Res := @Option.rec (Env × Heap × List Did) (fun _ => List (Nat × Nat) → Res) (fun _ => none) (fun x ps => drawK (pairsQ ps x.2.2) x.1 x.2.1) r
noncomputable def runDrawQ (P : Program) (cl : Caller) (ops : Array Oper) (e : Env) (h : Heap) : Res := @Bool.rec (fun _ => Res) none (drawR (runDQ P cl ops.toList ops.toList e h) (dynPairs ops.toList)) (drawText ops)
theorem runDrawQ_eq (P : Program) (cl : Caller) (ops : Array Oper) (e : Env) (h : Heap) : runDrawQ P cl ops e h = runDraw P cl ops e h := by
  unfold runDrawQ runDraw
  cases drawText ops with
  | false => rfl
  | true =>
    show drawR (runDQ P cl ops.toList ops.toList e h) (dynPairs ops.toList) = _
    rw [runDQ_eq]
    simp only
    cases runRec P cl ops.toList ops.toList e h with
    | none => rfl
    | some x =>
      obtain ⟨e', h', l⟩ := x
      show drawK (pairsQ (dynPairs ops.toList) l) e' h' = _
      rw [pairsQ_eq]
      unfold drawK drawDid2
      rfl
/- ## Code -/
noncomputable def vBK (v : Value) : (Bool → Res) → Res :=
  @Value.rec (fun _ => (Bool → Res) → Res) (fun _ => Unit) (fun _ => Unit) (fun b f => f b) (fun _ _ _ => none) (fun _ _ _ => none) (fun _ _ _ _ => none) (fun _ _ => none) (fun _ _ => none) (fun _ _ _ _ => none) (fun _ _ => none) (fun _ _ => none)
    (fun _ _ _ _ _ _ => none) (fun _ => none) (fun _ _ _ _ => none) (fun _ => none) (fun _ _ _ => none) (fun _ _ _ => none) (fun _ _ => ()) () (fun _ _ _ _ => ()) v
noncomputable def k_region (ops : Array Oper) (draw : Bool) : EngT := fun P cl _ _ e h => @Bool.rec (fun _ => Res) (runOpsQ P cl ops.toList ops.toList e h) (runDrawQ P cl ops e h) draw
noncomputable def k_cond (x : Operand) (a b : Code) : EngT := fun _ _ _ eng e h => vBK (evalQ x e) fun t => eng (@Bool.rec (fun _ => Code) b a t) e h
noncomputable def k_loop (body : Code) : EngT := fun _ _ n eng e h => @Option.rec (Tmp × Tmp × Tmp × Code) (fun _ => Code → Nat → (Code → Env → Heap → Res) → Env → Heap → Res) (fun body _ eng e h => onNormal (eng body e h) (eng (.loop body))) (fun x _ n eng e h => explore eng x.1 x.2.1 x.2.2.1 x.2.2.2 n e h) (mapLoopOf body) body n eng e h
noncomputable def scK (r : Res) (body : Code) (ih : Code → Env → Heap → Res) : Res := @Option.rec (AExit × Env × Heap) (fun _ => Code → (Code → Env → Heap → Res) → Res) (fun _ _ => none) (fun x body ih => @AExit.rec (fun _ => (AExit × Env × Heap) → Code → (Code → Env → Heap → Res) → Res) (fun x _ _ => some x) (fun x _ _ => some x) (fun _ x _ _ => some x)
  (fun l x body ih => @Option.rec Code (fun _ => (AExit × Env × Heap) → (Code → Env → Heap → Res) → Res) (fun _ _ => none) (fun c x ih => ih c x.2.1 x.2.2) (findLabel body l) x ih) (fun _ x _ _ => some x) x.1 x body ih) r body ih
noncomputable def scQ (eng : Code → Env → Heap → Res) (body : Code) (n : Nat) : Code → Env → Heap → Res := @Nat.rec (fun _ => Code → Env → Heap → Res) (fun _ _ _ => none) (fun _ ih c e h => scK (eng c e h) body ih) n
theorem scQ_eq (eng : Code → Env → Heap → Res) (body : Code) : ∀ (n : Nat), scQ eng body n = scopeRun eng body n
  | 0 => rfl
  | n + 1 => by
    funext c e h
    show scK (eng c e h) body (scQ eng body n) = _
    rw [scQ_eq eng body n, scopeRun]
    cases eng c e h with
    | none => rfl
    | some x =>
      obtain ⟨ex, e', h'⟩ := x
      cases ex with
      | goto l =>
        show (@Option.rec Code (fun _ => (AExit × Env × Heap) → (Code → Env → Heap → Res) → Res) _ _ (findLabel body l) _ _ : Res) = _
        simp only
        cases findLabel body l <;> rfl
      | _ => rfl
noncomputable def k_scope (body : Code) : EngT := fun _ _ n eng e h => scQ eng body n body e h
noncomputable def engCQ (c : Code) : EngT := @Code.rec (fun _ => EngT) c_skip (fun _ ops draw => k_region ops draw) (fun a b _ _ => c_seq a b) (fun x a b _ _ => k_cond x a b) (fun id b _ => c_block id b) (fun b _ => k_loop b) (fun _ _ _ _ _ _ => c_none) (fun id => c_exit id) (fun b _ => k_scope b) (fun _ => c_skip) (fun l => c_goto l) c_ret (fun _ => c_none) c
theorem engCQ_eq (c : Code) (P : Program) (cl : Caller) (n : Nat) (eng : Code → Env → Heap → Res) (e : Env) (h : Heap) : engCQ c P cl n eng e h = engC c P cl n eng e h := by
  cases c with
  | region id ops draw =>
    show (@Bool.rec (fun _ => Res) (runOpsQ P cl ops.toList ops.toList e h) (runDrawQ P cl ops e h) draw) = (@Bool.rec (fun _ => Res) (runOps P cl ops.toList ops.toList e h) (runDraw P cl ops e h) draw)
    rw [runOpsQ_eq, runDrawQ_eq]
  | cond x a b =>
    show vBK (evalQ x e) _ = c_cond x a b P cl n eng e h
    unfold c_cond
    rw [evalQ_eq']
    cases e.eval x <;> rfl
  | loop b =>
    show k_loop b P cl n eng e h = c_loop b P cl n eng e h
    unfold k_loop c_loop
    cases mapLoopOf b <;> rfl
  | scope b => show scQ eng b n b e h = scopeRun eng b n b e h; rw [scQ_eq]
  | _ => rfl
noncomputable def engineQ (P : Program) (cl : Caller) (n : Nat) : Code → Env → Heap → Res := @Nat.rec (fun _ => Code → Env → Heap → Res) (fun _ _ _ => none) (fun n eng c e h => engCQ c P cl n eng e h) n
theorem engineQ_eq (P : Program) (cl : Caller) : ∀ n : Nat, engineQ P cl n = engine P cl n
  | 0 => rfl
  | n + 1 => by
    funext c e h
    show engCQ c P cl n (engineQ P cl n) e h = engC c P cl n (engine P cl n) e h
    rw [engCQ_eq, engineQ_eq P cl n]
/- ## Calls -/
noncomputable def bodyT (P : Program) (ng : Nat) (f : FuncId) : Option (Code × List ResultVar) := match P.funcs[f]? with
  | some fn => Bool.rec (motive := fun _ => Option (Code × List ResultVar)) none (match fn.body with
      | some c => some (c, fn.results.toList)
      | none => none) (fnOk ng fn)
  | none => none
noncomputable def oneQ (r : ResultVar) : Program → Env → Heap → Option Value := @ResultVar.rec (fun _ => Program → Env → Heap → Option Value) (fun t _ e _ => some (atQ e t)) (fun a t P e h => @Option.rec Eff (fun _ => Option Value) none (fun f => some f.val) (fLoad t P (atQ e a) (getQ h))) r
theorem oneQ_eq (r : ResultVar) (P : Program) (e : Env) (h : Heap) : oneQ r P e h = resOne P e h r := by
  cases r with
  | tmp t => show some (atQ e t) = _; rw [atQ_eq]; rfl
  | cell a t =>
    show (@Option.rec Eff (fun _ => Option Value) none (fun f => some f.val) (fLoad t P (atQ e a) (getQ h))) = _
    rw [atQ_eq, getQ_eq, fLoad_eq]
    unfold resOne
    simp only
    cases effLoad P t (e.at a) h.get <;> rfl
noncomputable def oC (v : Option Value) (o : Option (List Value)) : Option (List Value) := @Option.rec Value (fun _ => Option (List Value) → Option (List Value)) (fun _ => none) (fun v o => @Option.rec (List Value) (fun _ => Value → Option (List Value)) (fun _ => none) (fun vs v => some (v :: vs)) o v) v o
noncomputable def allQ (l : List ResultVar) (P : Program) (e : Env) (h : Heap) : Option (List Value) := @List.rec ResultVar (fun _ => Program → Env → Heap → Option (List Value)) (fun _ _ _ => some []) (fun r _ ih P e h => oC (oneQ r P e h) (ih P e h)) l P e h
theorem allQ_eq (P : Program) (e : Env) (h : Heap) : ∀ l : List ResultVar, allQ l P e h = resAll P e h l
  | [] => rfl
  | r :: l => by
    show oC (oneQ r P e h) (allQ l P e h) = _
    rw [oneQ_eq, allQ_eq P e h l, resAll]
    cases resOne P e h r with
    | none => rfl
    | some v => cases resAll P e h l <;> rfl
noncomputable def tupQ (o : Option (List Value)) : Option Value := @Option.rec (List Value) (fun _ => Option Value) none (fun vs => some (.tuple ⟨vs⟩)) o
noncomputable def resQ (l : List ResultVar) (P : Program) (e : Env) (h : Heap) : Option Value := @List.rec ResultVar (fun _ => List ResultVar → Program → Env → Heap → Option Value) (fun l P e h => tupQ (allQ l P e h)) (fun r s _ l P e h => @List.rec ResultVar (fun _ => ResultVar → List ResultVar → Program → Env → Heap → Option Value) (fun r _ P e h => oneQ r P e h) (fun _ _ _ _ l P e h => tupQ (allQ l P e h)) s r l P e h) l l P e h
theorem resQ_eq (l : List ResultVar) (P : Program) (e : Env) (h : Heap) : resQ l P e h = resultV P e h l := by
  have tup : ∀ l, tupQ (allQ l P e h) = (match resAll P e h l with
      | some vs => some (.tuple vs.toArray)
      | none => none) := fun l => by
    rw [allQ_eq]
    cases resAll P e h l <;> rfl
  cases l with
  | nil => exact tup []
  | cons r s => cases s with
    | nil => exact oneQ_eq r P e h
    | cons r2 s => exact tup _
noncomputable def rvK (o : Option Value) (h : Heap) : RO := @Option.rec Value (fun _ => Heap → RO) (fun _ => none) (fun v h => some (.ret v, h)) o h
noncomputable def exK (ex : AExit) : List ResultVar → Program → Env → Heap → RO := @AExit.rec (fun _ => List ResultVar → Program → Env → Heap → RO) (fun l P e h => rvK (resQ l P e h) h) (fun l P e h => rvK (resQ l P e h) h) (fun _ _ _ _ _ => none) (fun _ _ _ _ _ => none) (fun v _ _ _ h => some (.pan v, h)) ex
noncomputable def fnR (r : Res) (l : List ResultVar) (P : Program) : RO := @Option.rec (AExit × Env × Heap) (fun _ => List ResultVar → Program → RO) (fun _ _ => none) (fun x l P => exK x.1 l P x.2.1 x.2.2) r l P
noncomputable def bodyK (o : Option (Code × List ResultVar)) (P : Program) (fuel : Nat) (cl : Caller) (args : List Value) (h : Heap) : RO := @Option.rec (Code × List ResultVar) (fun _ => RO) none (fun x => fnR (engineQ P cl fuel x.1 (storeQ .leaf 0 args) h) x.2 P) o
noncomputable def callFQ (P : Program) (ng : Nat) (sp : Special) (fuel : Nat) (cl : Caller) : Caller := fun f args h => @Option.rec (Caller → List Value → Heap → RO) (fun _ => RO) (bodyK (bodyT P ng f) P fuel cl args h) (fun F => F cl args h) (sp f)
theorem callFQ_eq (P : Program) (ng : Nat) (sp : Special) (fuel : Nat) (cl : Caller) : callFQ P ng sp fuel cl = callF P ng sp fuel cl := by
  funext f args h
  unfold callFQ callF
  cases sp f with
  | some F => rfl
  | none =>
    show bodyK (bodyT P ng f) P fuel cl args h = _
    unfold bodyT
    simp only
    cases P.funcs[f]? with
    | none => rfl
    | some fn =>
      simp only
      cases fnOk ng fn with
      | false => rfl
      | true =>
        simp only
        cases fn.body with
        | none => rfl
        | some c =>
          show fnR (engineQ P cl fuel c (storeQ .leaf 0 args) h) fn.results.toList P = _
          rw [engineQ_eq, storeQ_eq]
          simp only
          cases engine P cl fuel c (storeL .leaf 0 args) h with
          | none => rfl
          | some x =>
            obtain ⟨ex, e', h'⟩ := x
            cases ex with
            | normal => show rvK (resQ fn.results.toList P e' h') h' = _; rw [resQ_eq]; simp only; cases resultV P e' h' fn.results.toList <;> rfl
            | ret => show rvK (resQ fn.results.toList P e' h') h' = _; rw [resQ_eq]; simp only; cases resultV P e' h' fn.results.toList <;> rfl
            | _ => rfl
noncomputable def acallQ (P : Program) (ng : Nat) (sp : Special) (fuel n : Nat) : Caller := @Nat.rec (fun _ => Caller) (fun _ _ _ => none) (fun _ ih => callFQ P ng sp fuel ih) n
theorem acallQ_eq (P : Program) (ng : Nat) (sp : Special) (fuel : Nat) : ∀ n : Nat, acallQ P ng sp fuel n = acall P ng sp fuel n
  | 0 => rfl
  | n + 1 => by
    show callFQ P ng sp fuel (acallQ P ng sp fuel n) = callF P ng sp fuel (acall P ng sp fuel n)
    rw [callFQ_eq, acallQ_eq P ng sp fuel n]
end Go.AM
end
section
/- A run from a heap whose blocks are read alone, as a special in any heap that holds them: what it comes to, without what it left behind. Conditions: its answer is plain, or a new row of plain cells. -/
namespace Go.AM
variable {P : Program} {ng : Nat}

def deadAt (g : Nat → Option Blk) (b : Nat) : Bool := match g b with
  | some .dead => true
  | _ => false
def refOk (g : Nat → Option Blk) : Value → Bool
  | .bool _ | .int _ _ | .string _ | .nilFunc | .nilIface | .pointer none | .map none | .slice none _ _ | .chan none => true
  | .pointer (some ⟨b, _, none⟩) => (g b).isSome
  | .slice (some ⟨b, _, _⟩) _ _ => deadAt g b
  | .map (some r) => deadAt g r
  | .iface _ (.pointer (some ⟨b, _, none⟩)) => (g b).isSome
  | .iface _ (.bool _) | .iface _ (.int _ _) | .iface _ (.string _) => true
  | _ => false
noncomputable def rowOk (g : Nat → Option Blk) (xs : Trie Value) (n : Nat) : Bool := (List.range n).all fun i => match xs.get i with
  | some v => refOk g v
  | none => false
noncomputable def plainRow (xs : Trie Value) (n : Nat) : Bool := (List.range n).all fun i => match xs.get i with
  | some v => plainCell v
  | none => false
noncomputable def shutOk (H : Heap) (n : Nat) : Bool := Nat.beq H.nx n && (List.range n).all fun b => match H.get b with
  | some .dead => true
  | some (.cells xs n .ro) => rowOk H.get xs n
  | some (.cells xs n _) => plainRow xs n
  | _ => false
noncomputable def keptOk (H H1 : Heap) (n : Nat) : Bool := (List.range n).all fun b => match H.get b with
  | some (.cells _ _ .ro) => true
  | some (.cells xs n k) => beqB (H1.get b) (some (.cells xs n k))
  | _ => true
def Agree (H h : Heap) : Prop := ∀ b xs n k, H.get b = some (.cells xs n k) → ∃ k', h.get b = some (.cells xs n k') ∧ (k ≠ .ro → k' = k)
noncomputable def shutMp (H : Heap) (m : Mp) : Mp := fun b => match H.get b with
  | none => .fresh
  | some (.cells _ _ .ro) => match m b with
    | .live l => .live ⟨l.cb, l.sh, 0, l.asz, l.csz, false⟩
    | _ => .dead
  | some (.cells _ _ _) => match m b with
    | .live l => .live l
    | _ => .dead
  | some _ => .dead
theorem shutMp_dead {H : Heap} {m : Mp} {b : Nat} (h : deadAt H.get b = true) : shutMp H m b = .dead := by
  unfold deadAt at h
  unfold shutMp
  cases hy : H.get b with
  | none => rw [hy] at h; cases h
  | some y => rw [hy] at h; cases y <;> first | rfl | cases h
theorem shut_ref {H h : Heap} {m : Mp} {N : Nat} {F : Nat → Option Blk} {w : World} (hk : ∀ b x, H.get b = some x → x = .dead ∨ ∃ xs n k, x = .cells xs n k) (hag : Agree H h) (hN : h.nx ≤ N) (hwf : HWf h) (hh : HRel m (mix h N F) w)
    {v v' : Value} (hr : VRel m v v') (ho : refOk H.get v = true) : VRel (shutMp H m) v v' := by
  have key : ∀ b x, H.get b = some x → (shutMp H m b = .dead ∨ ∃ l, m b = .live l ∧ ∃ l2, shutMp H m b = .live l2 ∧ l2.cb = l.cb ∧ l2.sh = l.sh) := by
    intro b x hx
    unfold shutMp
    rw [hx]
    rcases hk b x hx with rfl | ⟨xs, n, k, rfl⟩
    · exact .inl rfl
    · cases k <;> (simp only; cases hm : m b <;> first | exact .inr ⟨_, rfl, _, rfl, rfl, rfl⟩ | exact .inl rfl)
  have pt : ∀ b off v', (H.get b).isSome = true → VRel m (.pointer (some ⟨b, off, none⟩)) v' → VRel (shutMp H m) (.pointer (some ⟨b, off, none⟩)) v' := by
    intro b off v' ho hr
    obtain ⟨x, hx⟩ := Option.isSome_iff_exists.1 ho
    rcases key b x hx with hd | ⟨l, h1, l2, h2, h3, h4⟩
    · cases hr with
      | ptr _ _ l h => exact .ptrDead _ _ hd
      | ptrDead _ _ h => exact .ptrDead _ _ hd
    · cases hr with
      | ptr _ _ l' h =>
        rw [h1] at h; cases h
        rw [← h3, ← h4]
        exact VRel.ptr b off l2 h2
      | ptrDead _ _ h =>
        have h : m b = .dead := h
        rw [h1] at h; cases h
  cases hr with
  | bool => exact .bool _
  | int => exact .int _ _
  | string => exact .string _
  | ptrNil => exact .ptrNil
  | ptr b off l h => exact pt b off _ ho (.ptr b off l h)
  | ptrDead a a' h =>
    obtain ⟨b, off, s⟩ := a
    cases s with
    | none => exact pt b off _ ho (.ptrDead _ _ h)
    | some s => exact absurd ho (by simp [refOk])
  | sliceNil => exact .sliceNil _ _
  | slice b off len cap cap' l h hs =>
    have hd : shutMp H m b = .dead := shutMp_dead ho
    exact .sliceDead _ _ _ _ _ hd
  | sliceEnd b off a' l h hs =>
    have hd : shutMp H m b = .dead := shutMp_dead ho
    exact .sliceDead _ _ _ _ _ hd
  | sliceDead a a' len cap cap' h =>
    have hd : shutMp H m a.block = .dead := shutMp_dead ho
    exact .sliceDead _ _ _ _ _ hd
  | mapNil => exact .mapNil
  | map r l h =>
    have hd : shutMp H m r = .dead := shutMp_dead ho
    exact .mapDead _ _ hd
  | mapDead r r' h =>
    have hd : shutMp H m r = .dead := shutMp_dead ho
    exact .mapDead _ _ hd
  | func => exact absurd ho (by simp [refOk])
  | nilFunc => exact .nilFunc
  | nilIface => exact .nilIface
  | iface t v v' h =>
    refine .iface t _ _ ?_
    cases h with
    | bool => exact .bool _
    | int => exact .int _ _
    | string => exact .string _
    | ptr b off l h => exact pt b off _ ho (.ptr b off l h)
    | ptrDead a a' h =>
      obtain ⟨b, off, s⟩ := a
      cases s with
      | none => exact pt b off _ ho (.ptrDead _ _ h)
      | some s => exact absurd ho (by simp [refOk])
    | _ => exact absurd ho (by simp [refOk])
  | agg => exact absurd ho (by simp [refOk])
  | tuple => exact absurd ho (by simp [refOk])
  | any v' h1 => exact .any _ h1
  | sym => exact absurd ho (by simp [refOk])
  | top => exact absurd ho (by simp [refOk])

def plainRes : Value → Bool
  | .bool _ | .int _ _ | .string _ | .slice none _ _ => true
  | _ => false
theorem plainRes_eq {m m2 : Mp} {v v' : Value} (hp : plainRes v = true) (h : VRel m v v') : VRel m2 v v' := by
  cases h <;> first | exact .bool _ | exact .int _ _ | exact .string _ | exact .sliceNil _ _ | exact absurd hp (by simp [plainRes])

theorem shut_core {cl0 : Caller} (hcl0 : CallOk P ng cl0) {f : FuncId} {n : Nat} {A : List Value} {H H1 : Heap} {o : Out} (hwf0 : HWf H) (hsh : shutOk H n = true) (hng : Nat.ble ng n = true) (hargs : A.all (refOk H.get) = true) (hrun : cl0 f A H = some (o, H1)) (hkp : keptOk H H1 n = true) {h : Heap} (hag : Agree H h) (hwf : HWf h) :
    Enter P f ∧ ∀ (N : Nat) (F : Nat → Option Blk) (m : Mp) (w : World) (args' : List Value), h.nx ≤ N → HRel m (mix h N F) w → GlobOk ng m → VRels m A args' →
      Calls P f args'.toArray w fun e w' => ∃ m2, ORel m2 o e ∧ HRel m2 (mix H1 H1.nx fun _ => none) w' ∧ w.heap.size ≤ w'.heap.size ∧ w'.os = w.os ∧ w'.output = w.output ∧ HRel m (mix h N F) w' ∧ (∀ cb, cb < w.heap.size → (∀ b l, m b = .live l → l.rw = true → l.cb ≠ cb) → w'.heap[cb]? = w.heap[cb]?) ∧
        (∀ b l, n ≤ b → m2 b = .live l → w.heap.size ≤ l.cb ∧ l.rw = true) := by
  obtain ⟨hen, hwf1, hnx, hc⟩ := hcl0 f A H _ _ hrun hwf0
  refine ⟨hen, fun N F m w args' hN hh hgl ha => ?_⟩
  unfold shutOk at hsh
  rw [Bool.and_eq_true, List.all_eq_true] at hsh
  obtain ⟨hn, hsh⟩ := hsh
  have hn : H.nx = n := Nat.eq_of_beq_eq_true hn
  have hin : ∀ b y, H.get b = some y → b < n := fun b y hy => by
    rcases Nat.lt_or_ge b n with h1 | h1
    · exact h1
    · rw [hwf0 b (by omega)] at hy; cases hy
  have hk : ∀ b y, H.get b = some y → y = .dead ∨ ∃ xs n k, y = .cells xs n k := by
    intro b y hy
    have h1 := hsh b (List.mem_range.2 (hin b y hy))
    rw [hy] at h1
    split at h1
    · rename_i e; cases e; exact .inl rfl
    · rename_i e; cases e; exact .inr ⟨_, _, _, rfl⟩
    · rename_i e; cases e; exact .inr ⟨_, _, _, rfl⟩
    · cases h1
  have hcell : ∀ b xs k, H.get b = some (.cells xs k .ro) → ∀ i, i < k → ∃ v, xs.get i = some v ∧ refOk H.get v = true := by
    intro b xs k hy i hi
    have h1 := hsh b (List.mem_range.2 (hin b _ hy))
    rw [hy] at h1
    have h1 : rowOk H.get xs k = true := h1
    unfold rowOk at h1
    have h2 := List.all_eq_true.1 h1 i (List.mem_range.2 hi)
    split at h2
    · exact ⟨_, by assumption, h2⟩
    · cases h2
  have hplain : ∀ b xs k kd, H.get b = some (.cells xs k kd) → kd ≠ .ro → ∀ i, i < k → ∃ v, xs.get i = some v ∧ plainCell v = true := by
    intro b xs k kd hy hkd i hi
    have h1 := hsh b (List.mem_range.2 (hin b _ hy))
    rw [hy] at h1
    have h1 : plainRow xs k = true := by cases kd <;> first | exact absurd rfl hkd | exact h1
    unfold plainRow at h1
    have h2 := List.all_eq_true.1 h1 i (List.mem_range.2 hi)
    split at h2
    · exact ⟨_, by assumption, h2⟩
    · cases h2
  have hsame : ∀ b xs k kd, H.get b = some (.cells xs k kd) → kd ≠ .ro → H1.get b = some (.cells xs k kd) := by
    intro b xs k kd hy hkd
    unfold keptOk at hkp
    have h1 := List.all_eq_true.1 hkp b (List.mem_range.2 (hin b _ hy))
    rw [hy] at h1
    refine beqB_eq ?_
    cases kd <;> first | exact absurd rfl hkd | exact h1
  have hlive : ∀ b xs k kd, H.get b = some (.cells xs k kd) → ∃ l kd', m b = .live l ∧ h.get b = some (.cells xs k kd') ∧ b < h.nx ∧ (kd ≠ .ro → kd' = kd) := by
    intro b xs k kd hy
    obtain ⟨kd', h1, h9⟩ := hag b xs k kd hy
    have hb : b < h.nx := by
      rcases Nat.lt_or_ge b h.nx with h2 | h2
      · exact h2
      · rw [hwf b h2] at h1; cases h1
    have h2 := hh.at hwf hN h1
    cases hm : m b with
    | live l => exact ⟨l, kd', rfl, h1, hb, h9⟩
    | _ => rw [hm] at h2; exact h2.elim
  let M0 := shutMp H m
  have hMro : ∀ b xs k l, H.get b = some (.cells xs k .ro) → m b = .live l → M0 b = .live ⟨l.cb, l.sh, 0, l.asz, l.csz, false⟩ := fun b xs k l hy hl => by
    show shutMp H m b = _
    unfold shutMp; rw [hy, hl]
  have hMrw : ∀ b xs k kd l, H.get b = some (.cells xs k kd) → kd ≠ .ro → m b = .live l → M0 b = .live l := fun b xs k kd l hy hkd hl => by
    show shutMp H m b = _
    unfold shutMp; rw [hy, hl]
    cases kd <;> first | exact absurd rfl hkd | rfl
  have hM0 : ∀ b l, M0 b = .live l → l.rw = true → m b = .live l ∧ ∃ xs k kd, H.get b = some (.cells xs k kd) ∧ kd ≠ .ro := by
    intro b l hb hrw
    have hb : shutMp H m b = .live l := hb
    cases hy : H.get b with
    | none => unfold shutMp at hb; rw [hy] at hb; cases hb
    | some y =>
      rcases hk b y hy with rfl | ⟨xs, k, kd, rfl⟩
      · unfold shutMp at hb; rw [hy] at hb; cases hb
      · obtain ⟨l2, kd', q1, _⟩ := hlive b xs k kd hy
        by_cases hkd : kd = .ro
        · subst hkd
          have := hMro b xs k l2 hy q1
          rw [show M0 b = shutMp H m b from rfl, hb] at this
          cases this; cases hrw
        · have := hMrw b xs k kd l2 hy hkd q1
          rw [show M0 b = shutMp H m b from rfl, hb] at this
          cases this
          exact ⟨q1, xs, k, kd, rfl, hkd⟩
  have hmixH : ∀ b, mix H H1.nx (fun _ => none) b = H.get b := by
    intro b
    unfold mix
    by_cases h1 : b < H1.nx
    · rw [if_pos h1]
    · rw [if_neg h1, hwf0 b (by omega)]
  have hroM : ∀ b, b < h.nx → mix h N F b = h.get b := fun b hb => by unfold mix; rw [if_pos (by omega)]
  have hroN : ∀ b xs k kd, H.get b = some (.cells xs k kd) → kd ≠ .ro → roB (mix h N F b) = false := fun b xs k kd hy hkd => by
    obtain ⟨l, kd', q1, q2, q3, q4⟩ := hlive b xs k kd hy
    rw [hroM b q3, q2, q4 hkd]
    cases kd <;> first | exact absurd rfl hkd | rfl
  have hrel : HRel M0 (mix H H1.nx fun _ => none) w := by
    refine ⟨fun b => ?_, fun b b' l1 l2 h1 h2 h3 hro => ?_⟩
    · rw [hmixH]
      cases hy : H.get b with
      | none => show BRel _ _ (shutMp H m b) none; unfold shutMp; rw [hy]; trivial
      | some y =>
        rcases hk b y hy with rfl | ⟨xs, k, kd, rfl⟩
        · show BRel _ _ (shutMp H m b) (some .dead); unfold shutMp; rw [hy]; trivial
        · obtain ⟨l, kd', h1, h2, h3, h9⟩ := hlive b xs k kd hy
          have h4 := hh.at hwf hN h2
          rw [h1] at h4
          obtain ⟨b1, c, el, fr, b2, b3, b4, b5, b6⟩ := h4
          by_cases hkd : kd = .ro
          · subst hkd
            rw [hMro b xs k l hy h1]
            refine ⟨b1, c, el, fr, b2, b3, b4, ⟨rfl, rfl⟩, fun i hi => ?_⟩
            obtain ⟨v, v', a1, a2, a3, a4⟩ := b6 i hi
            obtain ⟨u, u1, u2⟩ := hcell b xs k hy i hi
            rw [u1] at a1; cases a1
            exact ⟨v, v', u1, a2, a3, shut_ref hk hag hN hwf hh a4 u2⟩
          · rw [hMrw b xs k kd l hy hkd h1]
            rw [h9 hkd] at b5
            refine ⟨b1, c, el, fr, b2, b3, b4, b5, fun i hi => ?_⟩
            obtain ⟨v, v', a1, a2, a3, a4⟩ := b6 i hi
            obtain ⟨u, u1, u2⟩ := hplain b xs k kd hy hkd i hi
            rw [u1] at a1; cases a1
            exact ⟨v, v', u1, a2, a3, shut_ref hk hag hN hwf hh a4 (by cases v <;> first | rfl | (simp [plainCell] at u2; done) | (rename_i o; cases o <;> first | rfl | (simp [plainCell] at u2; done)) | (rename_i o l c; cases o <;> first | rfl | (simp [plainCell] at u2; done)))⟩
    · rw [hmixH] at hro
      cases hy : H.get b with
      | none => have h1 : shutMp H m b = .live l1 := h1; unfold shutMp at h1; rw [hy] at h1; cases h1
      | some y =>
        rcases hk b y hy with rfl | ⟨xs, k, kd, rfl⟩
        · have h1 : shutMp H m b = .live l1 := h1; unfold shutMp at h1; rw [hy] at h1; cases h1
        · by_cases hkd : kd = .ro
          · subst hkd; rw [hy] at hro; cases hro
          · obtain ⟨la, _, q1, _⟩ := hlive b xs k kd hy
            have e1 := hMrw b xs k kd la hy hkd q1
            rw [h1] at e1; cases e1
            cases hy2 : H.get b' with
            | none => have h2 : shutMp H m b' = .live l2 := h2; unfold shutMp at h2; rw [hy2] at h2; cases h2
            | some y2 =>
              rcases hk b' y2 hy2 with rfl | ⟨xs2, k2, kd2, rfl⟩
              · have h2 : shutMp H m b' = .live l2 := h2; unfold shutMp at h2; rw [hy2] at h2; cases h2
              · obtain ⟨lb, _, p1, _⟩ := hlive b' xs2 k2 kd2 hy2
                have hcb : lb.cb = l2.cb := by
                  by_cases hkd2 : kd2 = .ro
                  · subst hkd2
                    have := hMro b' xs2 k2 lb hy2 p1
                    rw [h2] at this; cases this; rfl
                  · have := hMrw b' xs2 k2 kd2 lb hy2 hkd2 p1
                    rw [h2] at this; cases this; rfl
                exact hh.inj b b' l1 lb q1 p1 (h3.trans hcb.symm) (hroN b xs k kd hy hkd)
  have hglob : GlobOk ng M0 := by
    intro g hg
    have hgn : g < n := Nat.lt_of_lt_of_le hg (Nat.le_of_ble_eq_true hng)
    have h1 := hsh g (List.mem_range.2 hgn)
    cases hy : H.get g with
    | none => rw [hy] at h1; cases h1
    | some y =>
      rcases hk g y hy with rfl | ⟨xs, k, kd, rfl⟩
      · exact .inr (by show shutMp H m g = _; unfold shutMp; rw [hy])
      · obtain ⟨l, kd', q1, q2, q3, q4⟩ := hlive g xs k kd hy
        rcases hgl g hg with ⟨l2, g1, g2, g3, g4⟩ | g1
        · rw [q1] at g1; cases g1
          by_cases hkd : kd = .ro
          · subst hkd
            exact .inl ⟨⟨l.cb, l.sh, 0, l.asz, l.csz, false⟩, hMro g xs k l hy q1, g2, g3, rfl⟩
          · exact .inl ⟨l, hMrw g xs k kd l hy hkd q1, g2, g3, g4⟩
        · rw [q1] at g1; cases g1
  have hav : VRels M0 A args' := by
    refine VRels.of_get ha.length fun i v v' h1 h2 => ?_
    obtain ⟨v2, h3, h4⟩ := ha.get h1
    rw [h2] at h3; cases h3
    exact shut_ref hk hag hN hwf hh h4 (List.all_eq_true.1 hargs v (List.mem_of_getElem? h1))
  refine (hc H1.nx (fun _ => none) M0 w args' (Nat.le_refl _) hrel hglob hav).mono ?_
  rintro e w' ⟨m', ho, hr, hst⟩
  -- what is behind the kept rows
  have hm' : ∀ b xs k kd l, H.get b = some (.cells xs k kd) → kd ≠ .ro → m b = .live l → m' b = .live l ∧ BRel m' w' (.live l) (some (.cells xs k kd)) := by
    intro b xs k kd l hy hkd hl
    have hb := hr.blk b
    have hbn : b < H1.nx := by have := hin b _ hy; omega
    unfold mix at hb
    rw [if_pos hbn, hsame b xs k kd hy hkd] at hb
    rcases hst.ext.live (hMrw b xs k kd l hy hkd hl) with q | ⟨q, _⟩
    · rw [q] at hb; exact ⟨q, hb⟩
    · rw [q] at hb; exact hb.elim
  have hkeepB : ∀ cb, cb < w.heap.size → (∀ b xs k kd l, H.get b = some (.cells xs k kd) → kd ≠ .ro → m b = .live l → l.cb ≠ cb) → w'.heap[cb]? = w.heap[cb]? := fun cb hcb hno => hst.keep cb hcb fun b l hb hrw e => by
    obtain ⟨q1, xs, k, kd, q2, q3⟩ := hM0 b l hb hrw
    exact hno b xs k kd l q2 q3 q1 e
  refine ⟨m', ho, hr, hst.size, hst.os, hst.out, ⟨fun b => ?_, hh.inj⟩, fun cb hcb hno => hkeepB cb hcb fun b xs k kd l hy hkd hl e => ?_, fun b l hbn hb => ?_⟩
  · -- each block of before
    have hob := hh.blk b
    by_cases hkp2 : ∃ xs k kd, H.get b = some (.cells xs k kd) ∧ kd ≠ .ro
    · obtain ⟨xs, k, kd, hy, hkd⟩ := hkp2
      obtain ⟨l, kd', q1, q2, q3, q4⟩ := hlive b xs k kd hy
      obtain ⟨_, r2⟩ := hm' b xs k kd l hy hkd q1
      rw [hroM b q3, q2, q4 hkd, q1]
      obtain ⟨b1, c, el, fr, b2, b3, b4, b5, b6⟩ := r2
      refine ⟨b1, c, el, fr, b2, b3, b4, b5, fun i hi => ?_⟩
      obtain ⟨v, v', a1, a2, a3, a4⟩ := b6 i hi
      obtain ⟨u, u1, u2⟩ := hplain b xs k kd hy hkd i hi
      rw [u1] at a1; cases a1
      refine ⟨v, v', u1, a2, a3, ?_⟩
      cases a4 <;> first | exact .bool _ | exact .int _ _ | exact .string _ | exact .ptrNil | exact .sliceNil _ _ | exact .mapNil | exact .nilFunc | exact .nilIface | exact absurd u2 (by simp [plainCell])
    · refine hob.mono (.refl m) fun l hl => hkeepB _ (hh.lt hl) fun b2 xs k kd l2 hy hkd hl2 e => hkp2 ?_
      have := hh.inj b2 b l2 l hl2 hl e (hroN b2 xs k kd hy hkd)
      subst this
      exact ⟨xs, k, kd, hy, hkd⟩
  · obtain ⟨_, kd', _, q2, q3, q4⟩ := hlive b xs k kd hy
    have hb := hh.at hwf hN q2
    rw [hl, q4 hkd] at hb
    obtain ⟨_, c, el, fr, _, _, _, b5, _⟩ := hb
    exact hno b l hl (by cases kd <;> first | exact absurd rfl hkd | exact b5.1) e
  · have hrw : l.rw = true := by
      cases hq : l.rw with
      | true => rfl
      | false =>
        have h1 := hst.old b l hb hq
        have h1 : shutMp H m b = .live l := h1
        unfold shutMp at h1
        rw [hwf0 b (by omega)] at h1; cases h1
    refine ⟨?_, hrw⟩
    rcases hst.new b l hb hrw with h1 | ⟨b0, l0, h1, h2, h3⟩
    · exact h1
    · exfalso
      obtain ⟨q1, xs, k, kd, q2, q3⟩ := hM0 b0 l0 h1 h2
      obtain ⟨r1, _⟩ := hm' b0 xs k kd l0 q2 q3 q1
      have hb0 := hin b0 _ q2
      have := hr.inj b0 b l0 l r1 hb h3 (by
        unfold mix
        rw [if_pos (by omega), hsame b0 xs k kd q2 q3]
        cases kd <;> first | exact absurd rfl q3 | rfl)
      omega
structure Shut where
  args : List Value
  H : Heap
  res : Value
  row : Option (List Value × Kind)
noncomputable def Shut.out (x : Shut) (h : Heap) : Out × Heap := match x.row with
  | none => (.ret x.res, h)
  | some r => match x.res with
    | .slice _ len cap => (.ret (.slice (some ⟨h.nx, 0, none⟩) len cap), h.new (cellsB r.1 r.2))
    | v => (.ret v, h)
def Shut.ok (cl0 : Caller) (f : FuncId) (ng n : Nat) (x : Shut) : Prop := HWf x.H ∧ shutOk x.H n = true ∧ Nat.ble ng n = true ∧ x.args.all (refOk x.H.get) = true ∧ ∃ H1, cl0 f x.args x.H = some (.ret x.res, H1) ∧ keptOk x.H H1 n = true ∧ match x.row with
  | none => plainRes x.res = true
  | some r => (r.1.all plainCell = true ∧ r.2 ≠ .ro) ∧ ∃ B len cap, x.res = .slice (some ⟨B, 0, none⟩) len cap ∧ Nat.ble n B = true ∧ H1.get B = some (cellsB r.1 r.2)

theorem shut_ok {cl0 : Caller} (hcl0 : CallOk P ng cl0) {f : FuncId} {n : Nat} {x : Shut} (hx : x.ok cl0 f ng n) {h : Heap} (hag : Agree x.H h) (hwf : HWf h) :
    Enter P f ∧ HWf (x.out h).2 ∧ h.nx ≤ (x.out h).2.nx ∧ ∀ (N : Nat) (F : Nat → Option Blk) (m : Mp) (w : World) (args' : List Value), (x.out h).2.nx ≤ N → HRel m (mix h N F) w → GlobOk ng m → VRels m x.args args' →
      Calls P f args'.toArray w fun e w' => ∃ m', ORel m' (x.out h).1 e ∧ HRel m' (mix (x.out h).2 N F) w' ∧ Step m w m' w' := by
  obtain ⟨A, H, res, row⟩ := x
  obtain ⟨hwf0, hsh, hng, hargs, H1, hrun, hkp, hres⟩ := hx
  obtain ⟨hen, hc⟩ := shut_core hcl0 hwf0 hsh hng hargs hrun hkp hag hwf
  cases row with
  | none =>
    refine ⟨hen, hwf, Nat.le_refl _, fun N F m w args' hN hh hgl ha => ?_⟩
    refine (hc N F m w args' hN hh hgl ha).mono ?_
    rintro e w' ⟨m2, ⟨v', rfl, hv⟩, _, hsz, hos, hou, hrw, hkeep, _⟩
    refine ⟨m, ⟨_, rfl, plainRes_eq hres hv⟩, hrw, ?_⟩
    exact ⟨.refl m, hsz, hos, hou, hkeep, fun b l' hl' hr' => .inr ⟨b, l', hl', hr', rfl⟩, fun b l' hl' _ => hl'⟩
  | some r =>
    obtain ⟨⟨hpl, hkd⟩, B, len, cap, rfl, hB, hg1⟩ := hres
    have hB := Nat.le_of_ble_eq_true hB
    refine ⟨hen, fun b hb => ?_, Nat.le_succ _, fun N F m w args' hN hh hgl ha => ?_⟩
    · have hb : h.nx + 1 ≤ b := hb
      show (h.new _).get b = none
      rw [Heap.get_new_ne _ _ (by omega)]
      exact hwf b (by omega)
    have hN : h.nx + 1 ≤ N := hN
    refine (hc N F m w args' (by omega) hh hgl ha).mono ?_
    rintro e w' ⟨m2, ⟨v', rfl, hv⟩, hr2, hsz, hos, hou, hrw0, hkeep, hnew⟩
    have hBl : B < H1.nx := by
      rcases Nat.lt_or_ge B H1.nx with h1 | h1
      · exact h1
      · have hw1 := (hcl0 f A H _ _ hrun hwf0).2.1
        rw [hw1 B h1] at hg1; cases hg1
    have hb2 := hr2.blk B
    unfold mix at hb2
    rw [if_pos hBl, hg1] at hb2
    obtain ⟨l0, hm2⟩ : ∃ l0, m2 B = .live l0 := by
      cases hm : m2 B with
      | live l => exact ⟨l, rfl⟩
      | _ => rw [hm] at hb2; exact hb2.elim
    rw [hm2] at hb2
    obtain ⟨hcb, hrw⟩ := hnew B l0 hB hm2
    have hfr : m h.nx = .fresh := by
      have h1 := hh.blk h.nx
      unfold mix at h1
      rw [if_pos (by omega), hwf h.nx (Nat.le_refl _)] at h1
      cases hm : m h.nx with
      | fresh => rfl
      | _ => rw [hm] at h1; exact h1.elim
    let m' : Mp := fun b => if b = h.nx then .live l0 else m b
    have e1 : m' h.nx = .live l0 := if_pos rfl
    have e2 : ∀ b, b ≠ h.nx → m' b = m b := fun b hb => if_neg hb
    have hext : Ext m m' := fun b => by
      by_cases hb : b = h.nx
      · subst hb; exact .inl hfr
      · exact .inr (.inl (e2 b hb))
    have hmix : mix (h.new (cellsB r.1 r.2)) N F h.nx = some (cellsB r.1 r.2) := by
      unfold mix; rw [if_pos (by omega), Heap.get_new_same]
    have hmix2 : ∀ b, b ≠ h.nx → mix (h.new (cellsB r.1 r.2)) N F b = mix h N F b := fun b hb => by
      unfold mix; rw [Heap.get_new_ne _ _ hb]
    refine ⟨m', ⟨_, rfl, ?_⟩, ⟨fun b => ?_, fun b b' l1 l2 h1 h2 h3 h4 => ?_⟩, ?_⟩
    · cases hv with
      | slice _ _ _ _ cap' l h hs =>
        rw [hm2] at h; cases h
        exact VRel.slice h.nx 0 _ _ _ l0 e1 hs
      | sliceEnd _ _ a' l h ho =>
        rw [hm2] at h; cases h
        exact VRel.sliceEnd h.nx 0 a' l0 e1 ho
      | sliceDead _ _ _ _ _ h =>
        have h : m2 B = .dead := h
        rw [hm2] at h; cases h
    · show BRel m' w' (m' b) (mix (h.new (cellsB r.1 r.2)) N F b)
      by_cases hb : b = h.nx
      · subst hb
        rw [hmix, e1]
        obtain ⟨b1, c, el, fr, b2, b3, b4, b5, b6⟩ := hb2
        refine ⟨b1, c, el, fr, b2, b3, b4, b5, fun i hi => ?_⟩
        obtain ⟨v, v', a1, a2, a3, a4⟩ := b6 i hi
        refine ⟨v, v', a1, a2, a3, ?_⟩
        rw [get_ofList] at a1
        have hp := List.all_eq_true.1 hpl v (List.mem_of_getElem? a1)
        cases a4 <;> first | exact .bool _ | exact .int _ _ | exact .string _ | exact .ptrNil | exact .sliceNil _ _ | exact .mapNil | exact .nilFunc | exact .nilIface | exact absurd hp (by simp [plainCell])
      · rw [hmix2 b hb, e2 b hb]
        exact (hrw0.blk b).mono hext fun _ _ => rfl
    · have hl : ∀ b l, m' b = .live l → b ≠ h.nx → l.cb < w.heap.size := fun b l hb hne => hh.lt (by rw [← e2 b hne]; exact hb)
      by_cases hb : b = h.nx
      · by_cases hb' : b' = h.nx
        · rw [hb, hb']
        · subst hb
          rw [e1] at h1; cases h1
          have := hl b' l2 h2 hb'
          omega
      · by_cases hb' : b' = h.nx
        · subst hb'
          rw [e1] at h2; cases h2
          have := hl b l1 h1 hb
          omega
        · have h4 : roB (mix (h.new (cellsB r.1 r.2)) N F b) = false := h4
          rw [hmix2 b hb] at h4
          exact hh.inj b b' l1 l2 (by rw [← e2 b hb]; exact h1) (by rw [← e2 b' hb']; exact h2) h3 h4
    · refine ⟨hext, hsz, hos, hou, hkeep, fun b l hb hr' => ?_, fun b l hb hr' => ?_⟩
      · by_cases hb2 : b = h.nx
        · subst hb2; rw [e1] at hb; cases hb; exact .inl hcb
        · exact .inr ⟨b, l, by rw [← e2 b hb2]; exact hb, hr', rfl⟩
      · by_cases hb2 : b = h.nx
        · subst hb2; rw [e1] at hb; cases hb; rw [hrw] at hr'; cases hr'
        · rw [← e2 b hb2]; exact hb

noncomputable def agreeAt (H h : Heap) (b : Nat) : Bool := match H.get b with
  | some (.cells xs m .ro) => (match h.get b with
    | some (.cells ys m' _) => Nat.beq m m' && beqT xs ys
    | _ => false)
  | some (.cells xs m k) => beqB (h.get b) (some (.cells xs m k))
  | _ => true
noncomputable def agreeB (H h : Heap) : Bool := (List.range H.nx).all (agreeAt H h)
noncomputable def selfOk (H : Heap) : Bool := (List.range H.nx).all fun b => match H.get b with
  | some (.cells xs _ _) => beqT xs xs
  | _ => true
theorem agreeB_agree {H h : Heap} (hwf : HWf H) (ha : agreeB H h = true) : Agree H h := by
  intro b xs m k hb
  have hlt : b < H.nx := by
    rcases Nat.lt_or_ge b H.nx with q | q
    · exact q
    · rw [hwf b q] at hb; cases hb
  have h1 := List.all_eq_true.1 ha b (List.mem_range.2 hlt)
  unfold agreeAt at h1
  rw [hb] at h1
  by_cases hk : k = .ro
  · subst hk
    simp only at h1
    split at h1
    · rename_i ys m' k' e
      rw [Bool.and_eq_true] at h1
      have e1 := Nat.eq_of_beq_eq_true h1.1
      have e2 := beqT_eq _ _ h1.2
      subst e1; subst e2
      exact ⟨k', e, fun q => absurd rfl q⟩
    · cases h1
  · have h2 : beqB (h.get b) (some (.cells xs m k)) = true := by cases k <;> first | exact absurd rfl hk | exact h1
    exact ⟨k, beqB_eq h2, fun _ => rfl⟩
theorem agree_agreeB {H h : Heap} (hs : selfOk H = true) (ha : Agree H h) : agreeB H h = true := by
  refine List.all_eq_true.2 fun b hb => ?_
  have h1 := List.all_eq_true.1 hs b hb
  unfold agreeAt
  cases hy : H.get b with
  | none => rfl
  | some y => cases y with
    | cells xs m k =>
      rw [hy] at h1
      simp only at h1
      obtain ⟨k', e, hk⟩ := ha b xs m k hy
      by_cases hr : k = .ro
      · subst hr
        simp only [e, Nat.beq_refl, h1, Bool.and_self]
      · have : beqB (h.get b) (some (.cells xs m k)) = true := by
          rw [e, hk hr]
          show (Nat.beq m m && decide (k = k) && beqT xs xs) = true
          rw [Nat.beq_refl, h1, decide_eq_true rfl]; rfl
        cases k <;> first | exact absurd rfl hr | exact this
    | _ => rfl
noncomputable def shutF (P : Program) (ng : Nat) (f : FuncId) (l : List Shut) (cl : Caller) (args : List Value) (h : Heap) : Option (Out × Heap) :=
  match l with
  | [] => callF P ng (fun _ => none) 3000 cl f args h
  | x :: r => Bool.rec (shutF P ng f r cl args h) (some (x.out h)) (beqL 100 x.args args && agreeB x.H h)
theorem shutF_ok (hm : P.follows .mixedOrders = true) {cl0 : Caller} (hcl0 : CallOk P ng cl0) {f : FuncId} {n : Nat} : ∀ {l : List Shut}, (∀ x ∈ l, x.ok cl0 f ng n) → ∀ cl, CallOk P ng cl → CallOkAt P ng f (shutF P ng f l cl)
  | [], _, cl, hcl => callF_ok hm noSpec_ok hcl f
  | x :: r, hl, cl, hcl => fun args h o h' hr hwf => by
    unfold shutF at hr
    cases hc : beqL 100 x.args args && agreeB x.H h with
    | true =>
      rw [hc] at hr
      rw [Bool.and_eq_true] at hc
      have hag := agreeB_agree (hl x (List.mem_cons_self ..)).1 hc.2
      have ha := (beqV_eq 100).2 _ _ hc.1
      subst ha
      have hr : x.out h = (o, h') := Option.some.inj hr
      obtain ⟨rfl, rfl⟩ : (x.out h).1 = o ∧ (x.out h).2 = h' := by rw [hr]; exact ⟨rfl, rfl⟩
      exact shut_ok hcl0 (hl x (List.mem_cons_self ..)) hag hwf
    | false =>
      rw [hc] at hr
      exact shutF_ok hm hcl0 (fun y hy => hl y (List.mem_cons_of_mem _ hy)) cl hcl args h o h' hr hwf
theorem shut_wf {sp : Special} {f : FuncId} {l : List Shut} {h : Heap} {R : Out → Heap → Prop} (hs : sp f = some (shutF P ng f l)) {o : Out × Heap} {args : List Value} (hf : ∀ c, shutF P ng f l c args h = some o) (hR : R o.1 o.2) : WF P ng sp f args h R := by
  refine ⟨o.1, o.2, ⟨1, fun fu d h1 h2 => ?_⟩, hR⟩
  obtain ⟨d, rfl⟩ : ∃ k, d = k + 1 := ⟨d - 1, by omega⟩
  rw [acall_succ]
  unfold callF
  rw [hs]
  exact hf _
theorem shutF_here {f : FuncId} {x : Shut} {l : List Shut} {h : Heap} (hl : beqL 100 x.args x.args = true) (hs : selfOk x.H = true) (ha : Agree x.H h) (c : Caller) : shutF P ng f (x :: l) c x.args h = some (x.out h) := by
  unfold shutF
  rw [hl, agree_agreeB hs ha]; rfl
theorem shutF_next {f : FuncId} {x : Shut} {l : List Shut} {args : List Value} {h : Heap} (hn : (beqL 100 x.args args && agreeB x.H h) = false) {c : Caller} {r : Option (Out × Heap)} (hr : ∀ c, shutF P ng f l c args h = r) : shutF P ng f (x :: l) c args h = r := by
  unfold shutF
  rw [hn]
  exact hr _
theorem agreeB_not {H h : Heap} (hwf : HWf H) (hn : ¬ Agree H h) (b : Bool) : (b && agreeB H h) = false := by
  cases hc : agreeB H h with
  | false => exact Bool.and_false _
  | true => exact absurd (agreeB_agree hwf hc) hn
end Go.AM
end
section
/- Rows of texts as arguments. Conditions: as each rule says. -/
namespace Go.AM
open Go.ChangeShapes Go.WideShapes Go.ChangeAt Go.RowKit
variable {P : Program} {W : World}
theorem strs_read {H : Type} {enc : TypeId × Value → H} {base fuel : Nat} {spare : Nat → Bool} {held : Bool} {t e : TypeId} {cs : List Value} {d : DataW H × List MemPlace} (ht : P.underlying t = some (.slice e)) (he : P.underlying e = some .string) (hc : P.cellsOf e = 1)
    (hd : DataW.trod enc P W base spare held fuel t cs = some d) :
    cs = [.slice none 0 0] ∨ ∃ a len cap, cs = [.slice (some a) len cap] ∧ (len ≤ maxLen ∧ len ≤ cap) ∧ ∃ f : Nat → ByteArray, (∀ i, i < len → (f i).size ≤ maxLen) ∧ (0 < len → ∃ b off cs el fr, a = ⟨b, off, none⟩ ∧ W.heap[b]? = some (.cells cs el fr) ∧ off + len ≤ cs.size ∧ ∀ i, i < len → cs[off + i]? = some (.string (f i))) := by
  rcases DataW.trod_slice ht hd with ⟨h, _⟩ | ⟨a, len0, cap0, elems, rest, n, _, h, _, _, hlc, hcm, hlen, hel, _⟩
  · exact .inl h
  · right
    have key : ∀ i, i < len0 → ∃ m, W.cell? (a.add i) = some (.string m) ∧ m.size ≤ maxLen := by
      intro i hi
      have h1 := hel i hi
      rw [hc, Nat.mul_one] at h1
      obtain ⟨x, hx⟩ : ∃ x, elems[i]? = some x := ⟨elems[i]'(by omega), List.getElem?_eq_getElem _⟩
      rw [hx] at h1
      obtain ⟨cs, g1, g2⟩ := Option.bind_eq_some_iff.1 h1
      obtain ⟨m, rfl, _, hm⟩ := DataW.trod_string he g2
      obtain ⟨_, _, g3⟩ := World.cells?_some g1
      have := g3 0 (by omega)
      refine ⟨m, ?_, hm⟩
      simpa [Addr.add] using this
    obtain ⟨f, hfm⟩ : ∃ f : Nat → ByteArray, ∀ i, i < len0 → W.cell? (a.add i) = some (.string (f i)) ∧ (f i).size ≤ maxLen := by
      refine ⟨fun i => if h : i < len0 then (key i h).choose else .empty, fun i hi => ?_⟩
      simp only [hi, dif_pos]
      exact (key i hi).choose_spec
    have hfn := fun i hi => (hfm i hi).1
    refine ⟨a, len0, cap0, h, ⟨Nat.le_trans hlc hcm, hlc⟩, f, fun i hi => (hfm i hi).2, fun hpos => ?_⟩
    obtain ⟨b, off, spot⟩ := a
    have hspot : spot = none := by simpa [Addr.add] using World.cell?_spot (hfn 0 hpos)
    subst hspot
    have key2 : ∀ i, i < len0 → W.cell? ⟨b, off + i, none⟩ = some (.string (f i)) := by
      intro i h
      have := hfn i h
      rwa [add_plain] at this
    have hcell : ∃ cs el fr, W.heap[b]? = some (.cells cs el fr) := by
      have := key2 0 hpos
      unfold World.cell? at this
      split at this <;> try (simp at this; done)
      rename_i cs el fr hh
      exact ⟨cs, el, fr, hh⟩
    obtain ⟨cs, el, fr, hcs⟩ := hcell
    have key3 : ∀ i, i < len0 → cs[off + i]? = some (.string (f i)) := by
      intro i h
      have := key2 i h
      simpa [World.cell?, hcs] using this
    refine ⟨b, off, cs, el, fr, rfl, hcs, ?_, key3⟩
    have := key3 (len0 - 1) (by omega)
    have := (Array.getElem?_eq_some_iff.1 this).1
    omega
theorem strs_block {H : Type} {enc : TypeId × Value → H} {base fuel : Nat} {spare : Nat → Bool} {held : Bool} {t e : TypeId} {cs : List Value} {d : DataW H × List MemPlace} (i : Nat) (ht : P.underlying t = some (.slice e)) (he : P.underlying e = some .string) (hc : P.cellsOf e = 1)
    (hd : DataW.trod enc P W base spare held fuel t cs = some d) :
    ∃ (v : Value) (a : Option Addr) (l : List (List UInt8)) (c : Nat) (s : AM.Stat) (x : Blk), cs = [v] ∧ (l.length ≤ maxLen ∧ l.length ≤ c) ∧ (∀ x ∈ l, x.length ≤ maxLen) ∧ (l.length = 0 ∨ (a = some ⟨i, 0, none⟩ ∧ x = cellsB (strs l) .ro)) ∧ (∀ m : Mp, m i = s → VRel m (.slice a l.length c) v) ∧ (∀ m, BRel m W s (some x)) ∧ (∀ l1, s = .live l1 → roB (some x) = true ∧ l1.rw = false) := by
  rcases strs_read ht he hc hd with rfl | ⟨a, len, cap, rfl, hm, f, hfs, hf⟩
  · exact ⟨_, none, [], 0, .dead, .dead, rfl, ⟨Nat.zero_le _, Nat.zero_le _⟩, (fun _ h => absurd h (List.not_mem_nil)), .inl rfl, fun m _ => .sliceNil 0 0, fun _ => trivial, fun _ h => by cases h⟩
  · by_cases hl : 0 < len
    · obtain ⟨b, off, cs, el, fr, rfl, h1, h2, h3⟩ := hf hl
      have hlen : ((List.range len).map fun j => (f j).data.toList).length = len := by simp
      refine ⟨_, some ⟨i, 0, none⟩, (List.range len).map fun j => (f j).data.toList, cap, .live ⟨b, off, 0, len, cs.size, false⟩, _, rfl, by rw [hlen]; exact hm, fun x hx => by
        obtain ⟨j, h1, rfl⟩ := List.mem_map.1 hx
        have := hfs j (List.mem_range.1 h1)
        simpa using this, .inr ⟨rfl, rfl⟩, fun m hm => ?_, fun m => ?_, fun l1 hl1 => ⟨rfl, by cases hl1; rfl⟩⟩
      · rw [hlen]
        exact .slice i 0 len cap cap _ hm (.inl rfl)
      · refine ⟨by simp [strs], cs, el, fr, h1, rfl, by simpa [strs] using h2, ⟨rfl, rfl⟩, fun j hj => ?_⟩
        have hj : j < len := by simpa [strs] using hj
        refine ⟨.string (f j), .string (f j), ?_, h3 j hj, rfl, .string (f j)⟩
        rw [get_ofList]
        unfold strs
        rw [List.getElem?_map, List.getElem?_map, List.getElem?_range hj]
        show some (Value.string (mkS (f j).data.toList)) = _
        rw [mkS_data]
    · have : len = 0 := by omega
      subst this
      exact ⟨_, some ⟨i, 0, none⟩, [], cap, .dead, .dead, rfl, ⟨Nat.zero_le _, Nat.zero_le _⟩, (fun _ h => absurd h (List.not_mem_nil)), .inl rfl, fun m hm => .sliceDead _ _ _ _ _ hm, fun _ => trivial, fun _ h => by cases h⟩
end Go.AM
end
