/- Lemmas of the claim: the machine of the proof and the walks of the program. Conditions: as each says. -/
import Derived.Test.YtkkdpbicppdglaaGreatDoorG3
import Derived.ProofKit
import Derived.OpenShut
import Derived.LaidMore
import Derived.Lay
import Derived.SevenTiedAt
import Derived.Stop.Joined
import Derived.Recover
import Derived.Shelf.Strings.Repeat
import Derived.Shelf.Strings.Search1
import Derived.Shelf.Small.Strs
import Derived.RangeFuncLeaves
import Derived.RangeFuncRecord
section
/- The rules for rewriting, tied together. No condition. -/
namespace Go.AM
theorem rb0 : type_of% (And.intro (And.intro (And.intro (And.intro (And.intro (@run_skip) (And.intro (@run_label) (@run_ret))) (And.intro (And.intro (@run_goto) (@run_leave)) (And.intro (@run_seq) (@run_block)))) (And.intro (And.intro (And.intro (@run_scope) (@run_region)) (And.intro (@run_cond) (@runB_true))) (And.intro (And.intro (@runB_false) (@exit_done)) (And.intro (@exit_seq_normal) (@exit_seq_ret))))) (And.intro (And.intro (And.intro (@exit_seq_exit) (And.intro (@exit_seq_goto) (@exit_seq_pan))) (And.intro (And.intro (@exit_blk_normal) (@exit_blk_ret)) (And.intro (@exit_blk_goto) (@exit_blk_pan)))) (And.intro (And.intro (And.intro (@exit_blk_exit) (@exit_again_normal)) (And.intro (@exit_again_ret) (@exit_again_exit))) (And.intro (And.intro (@exit_again_goto) (@exit_again_pan)) (And.intro (@exit_scope_normal) (@exit_scope_ret)))))) (And.intro (And.intro (And.intro (And.intro (@exit_scope_exit) (And.intro (@exit_scope_pan) (@run_nil))) (And.intro (And.intro (@run_guard) (@runG_true)) (And.intro (@runG_false) (@runV_ret)))) (And.intro (And.intro (And.intro (@runV_some) (@afterC_ret)) (And.intro (@rcd_nil) (@rcd_guard))) (And.intro (And.intro (@runGR_true) (@runGR_false)) (And.intro (@runVR_ret) (@runVR_some))))) (And.intro (And.intro (And.intro (@afterR_ret) (And.intro (@at_put) (@put_none))) (And.intro (And.intro (@at_args) (@eval_tmp)) (And.intro (@eval_const) (@eval_global)))) (And.intro (And.intro (And.intro (@eval_func) (@callee_func)) (And.intro (@callee_tmp) (@effPick_true))) (And.intro (And.intro (@effPick_false) (@effNil_ptr)) (And.intro (@effNil_ifc) (@effNil_func))))))) := And.intro (And.intro (And.intro (And.intro (And.intro (@run_skip) (And.intro (@run_label) (@run_ret))) (And.intro (And.intro (@run_goto) (@run_leave)) (And.intro (@run_seq) (@run_block)))) (And.intro (And.intro (And.intro (@run_scope) (@run_region)) (And.intro (@run_cond) (@runB_true))) (And.intro (And.intro (@runB_false) (@exit_done)) (And.intro (@exit_seq_normal) (@exit_seq_ret))))) (And.intro (And.intro (And.intro (@exit_seq_exit) (And.intro (@exit_seq_goto) (@exit_seq_pan))) (And.intro (And.intro (@exit_blk_normal) (@exit_blk_ret)) (And.intro (@exit_blk_goto) (@exit_blk_pan)))) (And.intro (And.intro (And.intro (@exit_blk_exit) (@exit_again_normal)) (And.intro (@exit_again_ret) (@exit_again_exit))) (And.intro (And.intro (@exit_again_goto) (@exit_again_pan)) (And.intro (@exit_scope_normal) (@exit_scope_ret)))))) (And.intro (And.intro (And.intro (And.intro (@exit_scope_exit) (And.intro (@exit_scope_pan) (@run_nil))) (And.intro (And.intro (@run_guard) (@runG_true)) (And.intro (@runG_false) (@runV_ret)))) (And.intro (And.intro (And.intro (@runV_some) (@afterC_ret)) (And.intro (@rcd_nil) (@rcd_guard))) (And.intro (And.intro (@runGR_true) (@runGR_false)) (And.intro (@runVR_ret) (@runVR_some))))) (And.intro (And.intro (And.intro (@afterR_ret) (And.intro (@at_put) (@put_none))) (And.intro (And.intro (@at_args) (@eval_tmp)) (And.intro (@eval_const) (@eval_global)))) (And.intro (And.intro (And.intro (@eval_func) (@callee_func)) (And.intro (@callee_tmp) (@effPick_true))) (And.intro (And.intro (@effPick_false) (@effNil_ptr)) (And.intro (@effNil_ifc) (@effNil_func))))))
theorem rb1 : type_of% (And.intro (And.intro (And.intro (And.intro (And.intro (@effExtract_tuple) (And.intro (@u_min2) (@u_max2))) (And.intro (And.intro (@u_len_slc) (@u_len_str)) (And.intro (@u_len_map) (@mlX_some)))) (And.intro (And.intro (And.intro (@effLoad_ptr) (@ldX_one)) (And.intro (@ldX_agg) (@effStore_ptr))) (And.intro (And.intro (@stX_exact) (@stX_loose)) (And.intro (@stX_bytes) (@opR_some))))) (And.intro (And.intro (And.intro (@effField_ptr) (And.intro (@fldX_some) (@addr_add))) (And.intro (And.intro (@effIdx_arr) (@ixA_some)) (And.intro (@effIdx_slc) (@ixS_some)))) (And.intro (And.intro (And.intro (@u_field) (@fvX_one)) (And.intro (@fvX_agg) (@ivX_some))) (And.intro (And.intro (@effBin_add) (@effBin_sub)) (And.intro (@effBin_mul) (@effBin_quo)))))) (And.intro (And.intro (And.intro (And.intro (@effBin_rem) (And.intro (@effBin_eql) (@effBin_neq))) (And.intro (And.intro (@effBin_lss) (@effBin_leq)) (And.intro (@effBin_gtr) (@effBin_geq)))) (And.intro (And.intro (And.intro (@effBin_shl) (@effBin_shr)) (And.intro (@effBin_and) (@effBin_or))) (And.intro (And.intro (@effBin_andNot) (@effUn_not)) (And.intro (@u_eql_bool) (@u_neq_bool))))) (And.intro (And.intro (And.intro (@u_eql_ptr) (And.intro (@u_neq_ptr) (@u_eql_slc))) (And.intro (And.intro (@u_neq_slc) (@u_eql_ifc)) (And.intro (@u_neq_ifc) (@u_conv)))) (And.intro (And.intro (And.intro (@cvI_int) (@alX_some)) (And.intro (@alY_false) (@effAlloc_eq))) (And.intro (And.intro (@cellsOf_bool) (@cellsOf_int)) (And.intro (@cellsOf_string) (@cellsOf_pointer))))))) := And.intro (And.intro (And.intro (And.intro (And.intro (@effExtract_tuple) (And.intro (@u_min2) (@u_max2))) (And.intro (And.intro (@u_len_slc) (@u_len_str)) (And.intro (@u_len_map) (@mlX_some)))) (And.intro (And.intro (And.intro (@effLoad_ptr) (@ldX_one)) (And.intro (@ldX_agg) (@effStore_ptr))) (And.intro (And.intro (@stX_exact) (@stX_loose)) (And.intro (@stX_bytes) (@opR_some))))) (And.intro (And.intro (And.intro (@effField_ptr) (And.intro (@fldX_some) (@addr_add))) (And.intro (And.intro (@effIdx_arr) (@ixA_some)) (And.intro (@effIdx_slc) (@ixS_some)))) (And.intro (And.intro (And.intro (@u_field) (@fvX_one)) (And.intro (@fvX_agg) (@ivX_some))) (And.intro (And.intro (@effBin_add) (@effBin_sub)) (And.intro (@effBin_mul) (@effBin_quo)))))) (And.intro (And.intro (And.intro (And.intro (@effBin_rem) (And.intro (@effBin_eql) (@effBin_neq))) (And.intro (And.intro (@effBin_lss) (@effBin_leq)) (And.intro (@effBin_gtr) (@effBin_geq)))) (And.intro (And.intro (And.intro (@effBin_shl) (@effBin_shr)) (And.intro (@effBin_and) (@effBin_or))) (And.intro (And.intro (@effBin_andNot) (@effUn_not)) (And.intro (@u_eql_bool) (@u_neq_bool))))) (And.intro (And.intro (And.intro (@u_eql_ptr) (And.intro (@u_neq_ptr) (@u_eql_slc))) (And.intro (And.intro (@u_neq_slc) (@u_eql_ifc)) (And.intro (@u_neq_ifc) (@u_conv)))) (And.intro (And.intro (And.intro (@cvI_int) (@alX_some)) (And.intro (@alY_false) (@effAlloc_eq))) (And.intro (And.intro (@cellsOf_bool) (@cellsOf_int)) (And.intro (@cellsOf_string) (@cellsOf_pointer))))))
theorem rb2 : type_of% (And.intro (And.intro (And.intro (And.intro (And.intro (@cellsOf_slice) (And.intro (@cellsOf_map) (@cellsOf_func))) (And.intro (And.intro (@cellsOf_nilFunc) (@cellsOf_iface)) (And.intro (@cellsOf_nilIface) (@cellsOf_agg)))) (And.intro (And.intro (And.intro (@effMakeSlice_eq) (@mkX_some)) (And.intro (@effSlice_ptr) (@effSlice_slc))) (And.intro (And.intro (@u_bounds) (@bnd_none)) (And.intro (@bnd_int) (@u_sliceAddr))))) (And.intro (And.intro (And.intro (@sadX_exact) (And.intro (@sadX_ro) (@sliceAddr_nil))) (And.intro (And.intro (@u_firstL) (@fsX_some)) (And.intro (@lenV_slc) (@lenV_str)))) (And.intro (And.intro (And.intro (@storable_bool) (@storable_int)) (And.intro (@storable_string) (@storable_pointer))) (And.intro (And.intro (@storable_slice) (@storable_agg)) (And.intro (@storable_iface) (@storable_nilIface)))))) (And.intro (And.intro (And.intro (And.intro (@Heap.get_upd_same) (And.intro (@Heap.get_new_same) (@Heap.nx_upd))) (And.intro (And.intro (@Heap.nx_new) (@Heap.apply_none)) (And.intro (@Heap.apply_wr) (@Heap.apply_nw)))) (And.intro (And.intro (And.intro (@Heap.apply_wr_nw) (@fnQ_normal)) (And.intro (@fnQ_ret) (@fnQ_pan))) (And.intro (And.intro (@resultV_one) (@resultV_nil)) (And.intro (@resultV_two) (@resAll_nil))))) (And.intro (And.intro (And.intro (@resAll_tmp) (And.intro (@fillL_nil) (@fillL_cons))) (And.intro (And.intro (@fillX_some) (@ret_val)) (And.intro (@resultV_cell) (@resAll_cell)))) (And.intro (And.intro (And.intro (@didsOk_nil) (@bind_some_agg)) (And.intro (@Heap.upd_upd) (@foot_load))) (And.intro (And.intro (@foot_store) (@foot_conv)) (And.intro (@foot_bin) (@foot_slice))))))) := And.intro (And.intro (And.intro (And.intro (And.intro (@cellsOf_slice) (And.intro (@cellsOf_map) (@cellsOf_func))) (And.intro (And.intro (@cellsOf_nilFunc) (@cellsOf_iface)) (And.intro (@cellsOf_nilIface) (@cellsOf_agg)))) (And.intro (And.intro (And.intro (@effMakeSlice_eq) (@mkX_some)) (And.intro (@effSlice_ptr) (@effSlice_slc))) (And.intro (And.intro (@u_bounds) (@bnd_none)) (And.intro (@bnd_int) (@u_sliceAddr))))) (And.intro (And.intro (And.intro (@sadX_exact) (And.intro (@sadX_ro) (@sliceAddr_nil))) (And.intro (And.intro (@u_firstL) (@fsX_some)) (And.intro (@lenV_slc) (@lenV_str)))) (And.intro (And.intro (And.intro (@storable_bool) (@storable_int)) (And.intro (@storable_string) (@storable_pointer))) (And.intro (And.intro (@storable_slice) (@storable_agg)) (And.intro (@storable_iface) (@storable_nilIface)))))) (And.intro (And.intro (And.intro (And.intro (@Heap.get_upd_same) (And.intro (@Heap.get_new_same) (@Heap.nx_upd))) (And.intro (And.intro (@Heap.nx_new) (@Heap.apply_none)) (And.intro (@Heap.apply_wr) (@Heap.apply_nw)))) (And.intro (And.intro (And.intro (@Heap.apply_wr_nw) (@fnQ_normal)) (And.intro (@fnQ_ret) (@fnQ_pan))) (And.intro (And.intro (@resultV_one) (@resultV_nil)) (And.intro (@resultV_two) (@resAll_nil))))) (And.intro (And.intro (And.intro (@resAll_tmp) (And.intro (@fillL_nil) (@fillL_cons))) (And.intro (And.intro (@fillX_some) (@ret_val)) (And.intro (@resultV_cell) (@resAll_cell)))) (And.intro (And.intro (And.intro (@didsOk_nil) (@bind_some_agg)) (And.intro (@Heap.upd_upd) (@foot_load))) (And.intro (And.intro (@foot_store) (@foot_conv)) (And.intro (@foot_bin) (@foot_slice))))))
theorem rb3 : type_of% (And.intro (And.intro (And.intro (And.intro (And.intro (@foot_build) (And.intro (@foot_mks) (@foot_alloc))) (And.intro (And.intro (@foot_box) (@foot_buildSlice)) (And.intro (@foot_lookup) (@blkOf_ptr)))) (And.intro (And.intro (And.intro (@blkOf_ptrn) (@blkOf_slice)) (And.intro (@blkOf_slicen) (@blkOf_int))) (And.intro (And.intro (@blkOf_bool) (@blkOf_string)) (And.intro (@didsOk_cons) (@pairOk_some))))) (And.intro (And.intro (And.intro (@swap_skip) (And.intro (@swap_skip') (@swap_ee))) (And.intro (And.intro (@swap_ce) (@swap_ec)) (And.intro (@sameB_self) (@newIds_nil)))) (And.intro (And.intro (And.intro (@newIds_cons) (@disj_nil)) (And.intro (@disj_nil') (@disj_cons))) (And.intro (And.intro (@overL_cs) (@overL_cz)) (And.intro (@overL_nil) (@o_move)))))) (And.intro (And.intro (And.intro (And.intro (@o_assign) (And.intro (@o_pick) (@o_alloc))) (And.intro (And.intro (@o_box) (@o_build)) (And.intro (@o_buildSlice) (@o_load)))) (And.intro (And.intro (And.intro (@o_store) (@o_nilc)) (And.intro (@o_bin) (@o_un))) (And.intro (And.intro (@o_conv) (@o_arrp)) (And.intro (@o_ifc) (@o_fun))))) (And.intro (And.intro (And.intro (@o_mkm) (And.intro (@o_mks) (@o_slice))) (And.intro (And.intro (@o_fieldAddr) (@o_field)) (And.intro (@o_indexAddr) (@o_index)))) (And.intro (And.intro (And.intro (@o_lookup) (@o_mapUpdate)) (And.intro (@o_range) (@o_next))) (And.intro (And.intro (@o_tassert) (@o_extract)) (And.intro (@o_builtin) (@q_move))))))) := And.intro (And.intro (And.intro (And.intro (And.intro (@foot_build) (And.intro (@foot_mks) (@foot_alloc))) (And.intro (And.intro (@foot_box) (@foot_buildSlice)) (And.intro (@foot_lookup) (@blkOf_ptr)))) (And.intro (And.intro (And.intro (@blkOf_ptrn) (@blkOf_slice)) (And.intro (@blkOf_slicen) (@blkOf_int))) (And.intro (And.intro (@blkOf_bool) (@blkOf_string)) (And.intro (@didsOk_cons) (@pairOk_some))))) (And.intro (And.intro (And.intro (@swap_skip) (And.intro (@swap_skip') (@swap_ee))) (And.intro (And.intro (@swap_ce) (@swap_ec)) (And.intro (@sameB_self) (@newIds_nil)))) (And.intro (And.intro (And.intro (@newIds_cons) (@disj_nil)) (And.intro (@disj_nil') (@disj_cons))) (And.intro (And.intro (@overL_cs) (@overL_cz)) (And.intro (@overL_nil) (@o_move)))))) (And.intro (And.intro (And.intro (And.intro (@o_assign) (And.intro (@o_pick) (@o_alloc))) (And.intro (And.intro (@o_box) (@o_build)) (And.intro (@o_buildSlice) (@o_load)))) (And.intro (And.intro (And.intro (@o_store) (@o_nilc)) (And.intro (@o_bin) (@o_un))) (And.intro (And.intro (@o_conv) (@o_arrp)) (And.intro (@o_ifc) (@o_fun))))) (And.intro (And.intro (And.intro (@o_mkm) (And.intro (@o_mks) (@o_slice))) (And.intro (And.intro (@o_fieldAddr) (@o_field)) (And.intro (@o_indexAddr) (@o_index)))) (And.intro (And.intro (And.intro (@o_lookup) (@o_mapUpdate)) (And.intro (@o_range) (@o_next))) (And.intro (And.intro (@o_tassert) (@o_extract)) (And.intro (@o_builtin) (@q_move))))))
theorem rb4 : type_of% (And.intro (And.intro (And.intro (And.intro (And.intro (@q_assign) (@q_pick)) (And.intro (@q_alloc) (@q_box))) (And.intro (And.intro (@q_build) (@q_buildSlice)) (And.intro (@q_load) (And.intro (@q_store) (@q_nilc))))) (And.intro (And.intro (And.intro (@q_bin) (@q_un)) (And.intro (@q_conv) (And.intro (@q_arrp) (@q_ifc)))) (And.intro (And.intro (@q_fun) (@q_mkm)) (And.intro (@q_mks) (And.intro (@q_slice) (@q_fieldAddr)))))) (And.intro (And.intro (And.intro (And.intro (@q_field) (@q_indexAddr)) (And.intro (@q_index) (@q_lookup))) (And.intro (And.intro (@q_mapUpdate) (@q_range)) (And.intro (@q_next) (And.intro (@q_tassert) (@q_extract))))) (And.intro (And.intro (And.intro (@q_builtin) (@o_call)) (And.intro (@o_invoke) (And.intro (@q_callv) (@q_invoke)))) (And.intro (And.intro (@b_len) (@b_append)) (And.intro (@b_copy) (And.intro (@b_clear) (@b_delete))))))) := And.intro (And.intro (And.intro (And.intro (And.intro (@q_assign) (@q_pick)) (And.intro (@q_alloc) (@q_box))) (And.intro (And.intro (@q_build) (@q_buildSlice)) (And.intro (@q_load) (And.intro (@q_store) (@q_nilc))))) (And.intro (And.intro (And.intro (@q_bin) (@q_un)) (And.intro (@q_conv) (And.intro (@q_arrp) (@q_ifc)))) (And.intro (And.intro (@q_fun) (@q_mkm)) (And.intro (@q_mks) (And.intro (@q_slice) (@q_fieldAddr)))))) (And.intro (And.intro (And.intro (And.intro (@q_field) (@q_indexAddr)) (And.intro (@q_index) (@q_lookup))) (And.intro (And.intro (@q_mapUpdate) (@q_range)) (And.intro (@q_next) (And.intro (@q_tassert) (@q_extract))))) (And.intro (And.intro (And.intro (@q_builtin) (@o_call)) (And.intro (@o_invoke) (And.intro (@q_callv) (@q_invoke)))) (And.intro (And.intro (@b_len) (@b_append)) (And.intro (@b_copy) (And.intro (@b_clear) (@b_delete))))))
end Go.AM
end
section
/- Lemmas of the library, tied together for rewriting. No condition. -/
namespace Go.AM
theorem Yk : type_of% (And.intro (And.intro (And.intro (And.intro (And.intro (And.intro (@List.set_cons_zero.{0}) (@List.set_cons_succ.{0})) (And.intro (@List.cons_append.{0}) (@List.nil_append.{0}))) (And.intro (And.intro (@List.append_nil.{0}) (@List.all_cons.{0})) (And.intro (@List.all_nil.{0}) (@List.getElem?_cons_zero.{0})))) (And.intro (And.intro (And.intro (@List.getElem?_cons_succ.{0}) (@List.length_cons.{0})) (And.intro (@List.length_nil.{0}) (@Option.getD_some.{0}))) (And.intro (And.intro (@Option.some.injEq.{0}) (@Option.isNone_some.{0})) (And.intro (@Option.isNone_none.{0}) (@Option.isSome_some.{0}))))) (And.intro (And.intro (And.intro (And.intro (@Option.isSome_none.{0}) (@List.isEmpty_nil.{0})) (And.intro (@List.any_cons.{0}) (@List.any_nil.{0}))) (And.intro (And.intro (@List.drop_zero.{0}) (@List.drop_succ_cons.{0})) (And.intro (@List.take_succ_cons.{0}) (@List.take_zero.{0})))) (And.intro (And.intro (And.intro (@List.take_nil.{0}) (@List.drop_nil.{0})) (And.intro (@List.map_toArray.{0, 0}) (@List.map_cons.{0, 0}))) (And.intro (And.intro (@List.map_nil.{0, 0}) (@Option.map_some.{0, 0})) (And.intro (@Option.map_none.{0, 0}) (And.intro (@Option.bind_some.{0, 0}) (@Nat.blt_eq))))))) (And.intro (And.intro (And.intro (And.intro (And.intro (@decide_eq_true_eq) (@Bool.and_true)) (And.intro (@Bool.true_and) (@Bool.and_self))) (And.intro (And.intro (@Bool.not_true) (@Bool.not_false)) (And.intro (@true_and) (@and_true)))) (And.intro (And.intro (And.intro (@true_or) (@or_true)) (And.intro (@false_or) (@or_false))) (And.intro (And.intro (@Bool.true_eq_false) (@Bool.false_eq_true)) (And.intro (@decide_true) (@decide_false))))) (And.intro (And.intro (And.intro (And.intro (@Int.toNat_natCast) (@Nat.zero_add)) (And.intro (@Nat.add_zero) (@Bool.or_false))) (And.intro (And.intro (@Bool.false_or) (@Bool.and_eq_true)) (And.intro (@exists_eq_left'.{1}) (@ite_true.{1})))) (And.intro (And.intro (And.intro (@ite_false.{1}) (@cond_true.{1})) (And.intro (@cond_false.{1}) (@if_true.{1}))) (And.intro (And.intro (@if_false.{1}) (@ite_true.{0})) (And.intro (@ite_false.{0}) (And.intro (@if_true.{0}) (@if_false.{0})))))))) := (And.intro (And.intro (And.intro (And.intro (And.intro (And.intro (@List.set_cons_zero.{0}) (@List.set_cons_succ.{0})) (And.intro (@List.cons_append.{0}) (@List.nil_append.{0}))) (And.intro (And.intro (@List.append_nil.{0}) (@List.all_cons.{0})) (And.intro (@List.all_nil.{0}) (@List.getElem?_cons_zero.{0})))) (And.intro (And.intro (And.intro (@List.getElem?_cons_succ.{0}) (@List.length_cons.{0})) (And.intro (@List.length_nil.{0}) (@Option.getD_some.{0}))) (And.intro (And.intro (@Option.some.injEq.{0}) (@Option.isNone_some.{0})) (And.intro (@Option.isNone_none.{0}) (@Option.isSome_some.{0}))))) (And.intro (And.intro (And.intro (And.intro (@Option.isSome_none.{0}) (@List.isEmpty_nil.{0})) (And.intro (@List.any_cons.{0}) (@List.any_nil.{0}))) (And.intro (And.intro (@List.drop_zero.{0}) (@List.drop_succ_cons.{0})) (And.intro (@List.take_succ_cons.{0}) (@List.take_zero.{0})))) (And.intro (And.intro (And.intro (@List.take_nil.{0}) (@List.drop_nil.{0})) (And.intro (@List.map_toArray.{0, 0}) (@List.map_cons.{0, 0}))) (And.intro (And.intro (@List.map_nil.{0, 0}) (@Option.map_some.{0, 0})) (And.intro (@Option.map_none.{0, 0}) (And.intro (@Option.bind_some.{0, 0}) (@Nat.blt_eq))))))) (And.intro (And.intro (And.intro (And.intro (And.intro (@decide_eq_true_eq) (@Bool.and_true)) (And.intro (@Bool.true_and) (@Bool.and_self))) (And.intro (And.intro (@Bool.not_true) (@Bool.not_false)) (And.intro (@true_and) (@and_true)))) (And.intro (And.intro (And.intro (@true_or) (@or_true)) (And.intro (@false_or) (@or_false))) (And.intro (And.intro (@Bool.true_eq_false) (@Bool.false_eq_true)) (And.intro (@decide_true) (@decide_false))))) (And.intro (And.intro (And.intro (And.intro (@Int.toNat_natCast) (@Nat.zero_add)) (And.intro (@Nat.add_zero) (@Bool.or_false))) (And.intro (And.intro (@Bool.false_or) (@Bool.and_eq_true)) (And.intro (@exists_eq_left'.{1}) (@ite_true.{1})))) (And.intro (And.intro (And.intro (@ite_false.{1}) (@cond_true.{1})) (And.intro (@cond_false.{1}) (@if_true.{1}))) (And.intro (And.intro (@if_false.{1}) (@ite_true.{0})) (And.intro (@ite_false.{0}) (And.intro (@if_true.{0}) (@if_false.{0}))))))))
theorem Yh : type_of% (And.intro (@Heap.get_upd_ne) (And.intro (@Heap.get_new_ne) (@Heap.get_new_at))) := (And.intro (@Heap.get_upd_ne) (And.intro (@Heap.get_new_ne) (@Heap.get_new_at)))
theorem Yn : type_of% (And.intro (@Heap.nx_upd) (@Heap.nx_new)) := (And.intro (@Heap.nx_upd) (@Heap.nx_new))
end Go.AM
end
section
/- From a run of the machine to a row. -/
namespace Go.AM
open Go.ChangeShapes Go.WideShapes

variable {P : Program} {W : World} {r : Reach} {base : Nat} {u : TypeId} {x : Value}

/- ## what an argument is made of -/
theorem cell_int {k : IntKind} (hu : P.underlying u = some (.int k)) (h : Cell.okWide P W r base u x) : ∃ n, x = .int k n ∧ k.has n := by
  unfold Cell.okWide at h
  cases x <;> simp only [hu] at h <;> simp only [Cell.ok, hu] at h
  obtain ⟨rfl, h⟩ := h
  exact ⟨_, rfl, h⟩
theorem row_cells {t : TypeId} {ts : List TypeId} {v : Value} (hu : (match P.underlying t with | some (.struct _) => true | _ => false) = true) (hc : P.cellTypes P.depth t = some ts) (h : Value.okWide P W r base t v) :
    ∃ cs, v = .agg cs ∧ cs.size = P.cellsOf t ∧ ∀ i x, cs[i]? = some x → ∃ u, ts[i % ts.length]? = some u ∧ Cell.okWide P W r base u x := by
  unfold Value.okWide at h
  split at hu <;> try (simp at hu; done)
  rename_i fs hfs
  simp only [hfs] at h
  obtain ⟨cs, rfl, h1, ts', h2, _, h4⟩ := h
  rw [hc] at h2
  cases h2
  exact ⟨cs, rfl, h1, h4⟩

/- ## what stays -/
def Still (W W' : World) : Prop := W'.os = W.os ∧ W'.output = W.output ∧ ∀ cb : Nat, cb < W.heap.size → W'.heap[cb]? = W.heap[cb]?
theorem Still.kept {W' : World} (h : Still W W') (may : MemPlace → Prop) : W.keptBut W' may := by
  refine ⟨h.1, h.2.1, fun i hi => ?_⟩
  rw [h.2.2 i hi]
  split
  · rename_i c t fr c' t' fr' h1 h2
    rw [h1] at h2
    simp only [Option.some.injEq, Obj.cells.injEq] at h2
    obtain ⟨rfl, rfl, rfl⟩ := h2
    exact ⟨rfl, rfl, rfl, fun _ _ => rfl⟩
  · rename_i es c es' c' h1 h2
    rw [h1] at h2
    simp only [Option.some.injEq, Obj.map.injEq] at h2
    obtain ⟨rfl, rfl⟩ := h2
    exact .inr ⟨rfl, rfl⟩
  · rfl
theorem Still.same {W' : World} (h : Still W W') {p : MemPlace} (hp : p.block < W.heap.size) : W.sameAt W' p := by
  cases p with
  | cell b off =>
    have := h.2.2 b hp
    simp [World.sameAt, World.cell?, this]
  | map b => exact h.2.2 b hp
section
variable {H : Type} {enc : TypeId × Value → H}
theorem trodAll_still {W' : World} {sp : Nat → Bool} {hd : Bool} (hs : Still W W') : ∀ {ts : List TypeId} {vs : List Value} {ds : List (DataW H)} {ps : List MemPlace}, (∀ p ∈ ps, p.block < W.heap.size) →
    DataW.TrodAll enc P W base sp hd ts vs ds ps → DataW.TrodAll enc P W' base sp hd ts vs ds ps
  | [], [], [], _, _, h => h
  | _ :: _, _ :: _, _ :: _, _, hl, ⟨p, q, ⟨n, h1⟩, h2, e⟩ =>
    ⟨p, q, ⟨n, DataW.trod_carry n _ _ _ h1 (fun x hx => hs.same (hl x (by rw [e]; exact List.mem_append_left _ hx)))⟩, trodAll_still hs (fun x hx => hl x (by rw [e]; exact List.mem_append_right _ hx)) h2, e⟩

theorem post_true {T : TypeId → Prop} {f : Func} {s : ChangeSpec} {W' : World} {args : Array Value} {ds gs : List (DataW H)} {before : List MemPlace} {bt : TypeId} (K : Kids P T) (hz : ∀ t e, T t → P.underlying t = some (.slice e) → 0 < P.cellsOf e)
    (hT : ∀ t ∈ f.params.toList, T t) (hb : P.underlying bt = some .bool) (hrt : f.resultTypes = #[bt]) (hvars : s.vars = []) (hg : gs = [])
    (hW : DataW.Whole enc P f.params.toList s.vars false W args.toList ds gs before) (hA : DataW.TrodAll enc P W 0 (fun _ => true) true f.params.toList args.toList ds before)
    (hres : (s.fn H (ds ++ gs)).results = [.lit (.bool true)]) (hargs : (s.fn H (ds ++ gs)).args = ds) (hv : (s.fn H (ds ++ gs)).vars = []) (hs : Still W W') :
    s.post enc P f false true false false W args (.bool true) W' := by
  have hlt := DataW.TrodAll.lt hA
  subst hg
  refine ⟨ds, [], before, [], before, [], hW, ?_, ?_, ?_, hs.kept _, fun h => by cases h⟩
  · rw [hres, hrt]
    exact trodAll_mk1 (Go.RowKit.shut_bool hb true)
  · rw [hargs]
    exact trodAll_still hs hlt (DataW.TrodAll.respare K hz hT hA fun p hp => by simpa using hlt p hp)
  · rw [hv, hvars]
    exact rfl
end

/- ## the call -/
/- ## tokens: ints that are not known -/
def statMp (l : List Stat) : Mp := fun b => (l[b]?).getD .fresh
end Go.AM
end
section
/- Slices of ints as arguments: their first ones are tokens in a block that is read alone. -/
namespace Go.AM
open Go.ChangeShapes Go.WideShapes
variable {P : Program} {W : World}

end Go.AM
end
section
/- Abstract heaps that are given block by block; a call that gives true from such a heap. -/
namespace Go.AM
open Go.ChangeShapes Go.WideShapes
variable {P : Program} {W : World}

noncomputable def blkT (l : List Blk) : Trie Blk → Nat → Trie Blk := List.rec (motive := fun _ => Trie Blk → Nat → Trie Blk) (fun t _ => t) (fun b _ ih t i => ih (t.set i b) (Nat.succ i)) l
noncomputable def listHeap (l : List Blk) : Heap := ⟨blkT l .leaf 0, l.length⟩
theorem get_blkT (l : List Blk) : ∀ (t : Trie Blk) (i k : Nat), (blkT l t i).get k = if i ≤ k ∧ k < i + l.length then l[k - i]? else t.get k := by
  induction l with
  | nil =>
    intro t i k
    show t.get k = _
    rw [if_neg (by simp)]
  | cons b r ih =>
    intro t i k
    show (blkT r (t.set i b) (i + 1)).get k = _
    rw [ih, Trie.get_set]
    simp only [List.length_cons]
    by_cases h : i ≤ k ∧ k < i + (r.length + 1)
    · rw [if_pos h]
      by_cases e : k = i
      · subst e; rw [if_neg (by omega), if_pos rfl]; simp
      · rw [if_pos (by omega)]
        rw [show k - i = (k - (i + 1)) + 1 by omega, List.getElem?_cons_succ]
    · rw [if_neg h, if_neg (by omega), if_neg (by omega)]
theorem listHeap_get (l : List Blk) (k : Nat) : (listHeap l).get k = l[k]? := by
  show (blkT l .leaf 0).get k = _
  rw [get_blkT]
  by_cases h : k < l.length
  · rw [if_pos (by omega)]; simp
  · rw [if_neg (by omega), Trie.get_leaf, List.getElem?_eq_none (by omega)]
theorem listHeap_wf (l : List Blk) : HWf (listHeap l) := fun b hb => by
  have hb : l.length ≤ b := hb
  rw [listHeap_get, List.getElem?_eq_none hb]
theorem statMp_get {st : List Stat} {b : Nat} {s : Stat} (h : statMp st b = s) (hs : s ≠ .fresh) : st[b]? = some s := by
  unfold statMp at h
  cases hb : st[b]? with
  | none => rw [hb] at h; exact absurd h.symm hs
  | some s' => rw [hb] at h; rw [← h]; rfl
theorem true_callsG {cl : Caller} {ng : Nat} (hcl : CallOk P ng cl) {f : FuncId} {args args' : List Value} {H : Heap} {M : Mp} {W : World} (hwf : HWf H) (hrel : ∀ N, H.nx ≤ N → HRel M (mix H N fun _ => none) W) (hg : GlobOk ng M) (hro : ∀ b l, M b = .live l → l.rw = false)
    (hrun : isTrue (cl f args H) = true) (ha : VRels M args args') :
    Calls P f args'.toArray W fun e W' => e = .returned (.bool true) ∧ Still W W' := by
  cases hq : cl f args H with
  | none => rw [hq] at hrun; simp [isTrue] at hrun
  | some q =>
    obtain ⟨o, h'⟩ := q
    rw [hq] at hrun
    have ho : o = .ret (.bool true) := by
      unfold isTrue at hrun
      split at hrun
      · rename_i b _ heq
        simp only [Option.some.injEq, Prod.mk.injEq] at heq
        rw [heq.1, hrun]
      · simp at hrun
    subst ho
    obtain ⟨_, _, hnx, hc⟩ := hcl f args H _ h' hq hwf
    refine (hc h'.nx (fun _ => none) M W args' (Nat.le_refl _) (hrel _ hnx) hg ha).mono ?_
    rintro e W' ⟨m', ⟨v', rfl, hv⟩, _, hst⟩
    cases hv
    refine ⟨rfl, hst.os, hst.out, fun cb hcb => hst.keep cb hcb ?_⟩
    intro b l hl hrw
    rw [hro b l hl] at hrw
    cases hrw
end Go.AM
end
section
/- A listed variable that is a table of ints: what is known of its cells; its block. -/
namespace Go.AM
open Go.ChangeShapes Go.WideShapes
variable {P : Program} {W : World}

theorem laid_table {nm : String} {g t e N : Nat} {k : IntKind} {bs : List Int} (hL : laidMet P [(nm, .agg (bs.map fun b => .lit (.int k b)))] W) (hg : P.globalNamed nm = some g) (ht : (P.globals[g]?).map (·.type) = some t) (hu : P.underlying t = some (.array N e))
    (he : P.underlying e = some (.int k)) (hc : P.cellsOf e = 1) (hct : P.cellsOf t = N) (hlen : bs.length = N) :
    ∃ cs el fr, W.heap[g]? = some (.cells cs el fr) ∧ cs.size = N ∧ ∀ i, i < N → cs[i]? = (bs.map (Value.int k))[i]? := by
  obtain ⟨ps, ⟨g', t', cs, fuel, p, q, hg', ht', hv, hd, _, _⟩, _, _⟩ := hL
  obtain rfl := Option.some.inj (hg.symm.trans hg')
  obtain rfl := Option.some.inj (ht.symm.trans ht')
  obtain ⟨xs, m, _, ex, hcl, hl, hel⟩ := DataW.trod_array hu hd
  have hheap : ∃ el fr, W.heap[g]? = some (.cells cs el fr) := by
    simp only [World.var?, hg, Option.bind_some] at hv
    split at hv <;> try (simp at hv; done)
    rename_i cs' el fr hh
    simp only [Option.some.injEq] at hv
    subst hv
    exact ⟨el, fr, hh⟩
  obtain ⟨el, fr, hh⟩ := hheap
  have hsz : cs.size = N := by rw [← hct, ← hcl]; simp
  refine ⟨cs, el, fr, hh, hsz, fun i hi => ?_⟩
  have hE := hel i hi
  rw [hc, Nat.mul_one, List.getElem?_eq_getElem (by omega)] at hE
  obtain ⟨z, e1, e2, _⟩ := DataW.trod_int he hE
  have e3 : (xs.map (·.1)) = bs.map fun n => .lit (.int k n) := (DataW.agg.inj (Prod.mk.inj ex).1).symm
  have e4 : (xs.map (·.1))[i]? = (bs.map fun n => (DataW.lit (.int k n) : DataW Unit))[i]? := by rw [e3]
  rw [List.getElem?_map, List.getElem?_map, List.getElem?_eq_getElem (by omega : i < xs.length), List.getElem?_eq_getElem (by omega : i < bs.length), e2] at e4
  have hz : z = bs[i]'(by omega) := by
    simp only [Option.map_some, Option.some.injEq, DataW.lit.injEq, Lit.int.injEq, true_and] at e4
    exact e4
  rw [List.getElem?_map, List.getElem?_eq_getElem (by omega : i < bs.length), Option.map_some, ← hz]
  have h0 : ((cs.toList.drop i).take 1)[0]? = some (.int k z) := by rw [e1]; rfl
  have : cs.toList[i]? = some (.int k z) := by simpa using h0
  simpa using this

noncomputable def tabBlk (k : IntKind) (bs : List Int) : Blk := .cells (ofList (bs.map (Value.int k))) bs.length .ro
theorem tab_rel {m : Mp} {g : Nat} {k : IntKind} {bs : List Int} {cs : Array Value} {el : TypeId} {fr : Nat × Nat} (h1 : W.heap[g]? = some (.cells cs el fr)) (h2 : cs.size = bs.length) (h3 : ∀ i, i < bs.length → cs[i]? = (bs.map (Value.int k))[i]?) :
    BRel m W (.live ⟨g, 0, 0, bs.length, bs.length, false⟩) (some (tabBlk k bs)) := by
  refine ⟨rfl, cs, el, fr, h1, h2, by simp, ⟨rfl, rfl⟩, fun i hi => ?_⟩
  have h4 := h3 i hi
  rw [List.getElem?_map, List.getElem?_eq_getElem (by omega : i < bs.length), Option.map_some] at h4
  refine ⟨_, _, ?_, by rw [Nat.zero_add]; exact h4, rfl, .int _ _⟩
  rw [get_ofList, List.getElem?_map, List.getElem?_eq_getElem (by omega : i < bs.length), Option.map_some]
end Go.AM
end
section
/- Seats whose rows list a table: calls from heaps that hold the table at its place (what lies ahead of it: not looked at), then tokens. -/
namespace Go.AM
open Go.ChangeShapes Go.WideShapes
variable {P : Program} {W : World}

theorem cell_one {r : Reach} {base : Nat} {u : TypeId} {x : Value} (h : Cell.okWide P W r base u x) : x.oneCell' = true := by
  unfold Cell.okWide at h
  cases x <;> first | rfl | (exfalso; split at h <;> first | (simp_all; done) | (unfold Cell.ok at h; split at h <;> simp_all))
noncomputable def doorL (g : Nat) (k : IntKind) (bs : List Int) : List Blk := List.replicate g .dead ++ [tabBlk k bs]
end Go.AM
end
section
/- A function that defers one closure of its own, which recovers: what the two come to, by the machine. -/
namespace Go.AM
variable {P : Program} {ng : Nat}

structure TryCode where
  (fn fnd : Func)
  (r0 g rest : Code)
  (tp td tr t1 : Tmp)
  (et : TypeId)
  (z : Value)

noncomputable def tryEnd (P : Program) (T : TryCode) (cl : Caller) (fuel : Nat) (p v : Value) (h : Heap) : Option (Out × Heap) :=
  match engine P cl fuel T.rest (Env.put (Env.put (storeL .leaf 0 [p]) (some T.tr) v) (some T.t1) v) h with
  | some (.normal, _, h4) => match effLoad P T.et p h4.get with
    | some f => some (.ret f.val, h4)
    | none => none
  | _ => none
noncomputable def tryF (P : Program) (T : TryCode) (fuel : Nat) (cl : Caller) (args : List Value) (h : Heap) : Option (Out × Heap) :=
  match engine P cl fuel T.r0 (storeL .leaf 0 args) h with
  | some (.normal, e0, h0) => match engine P cl fuel T.g e0 h0 with
    | some (.ret, e1, h1) => match resultV P e1 h1 T.fn.results.toList with
      | some v => some (.ret v, h1)
      | none => none
    | some (.normal, e1, h1) => match e1.at T.td with
      | .func (.func f) first captured => match cl f (first.toList ++ captured.toList) h1 with
        | some (.ret _, h2) => match effStore P T.et (e1.at T.tp) T.z h2.get with
          | some f => tryEnd P T cl fuel (e1.at T.tp) .nilIface (h2.apply f)
          | none => none
        | some (.pan v, h2) => tryEnd P T cl fuel (e1.at T.tp) v h2
        | none => none
      | _ => none
    | _ => none
  | _ => none

theorem put_ne {a : Act} {d : Option Tmp} {v : Value} {t : Tmp} (h : d ≠ some t) : (a.put d v).tmps.getD t undef = a.tmps.getD t undef := by
  cases d with
  | none => rfl
  | some d =>
    have : d ≠ t := fun e => h (by rw [e])
    simp [Act.put, Array.getElem?_setIfInBounds_ne this]
theorem put_eq {a : Act} {d : Tmp} {v : Value} (h : d < a.tmps.size) : (a.put (some d) v).tmps.getD d undef = v := by
  simp [Act.put, h]
theorem put_size {a : Act} {d : Option Tmp} {v : Value} : (a.put d v).tmps.size = a.tmps.size := by
  cases d <;> simp [Act.put]
theorem put_def {a : Act} {d : Option Tmp} {v : Value} : (a.put d v).defers = a.defers := by
  cases d <;> rfl
theorem wanted_noneT {o : Oper} (h : o.guard = none) (f : Nat → Option Bool) : Region.wanted o f = true := by simp [Region.wanted, h]

section
variable {T : TryCode} {f fd : FuncId} {i3 i4 i5 i0 : Nat} {mk df mv cal st rc as1 : Oper} {tf t8 : Tmp} {at1 at2 at3 : Array TypeId} {cl : Caller} {fuel : Nat}

theorem tryF_ok (hm : P.follows .mixedOrders = true) (hcl : CallOk P ng cl) (hf : P.funcs[f]? = some T.fn) (hok : T.fn.name != "runtime.NumGoroutine")
    (hb : T.fn.body = some (.seq T.r0 (.seq T.g (.seq (.region i3 #[mk, df] false) (.seq (.region i4 #[mv, cal] false) (.seq (.region i5 #[st] false) .ret))))))
    (hres : T.fn.results = #[.cell T.tp T.et])
    (hmk : mk.op = .makeFunc (.func fd) #[] #[.tmp T.tp] ∧ mk.dst = some tf ∧ mk.guard = none) (hdf : df.op = .defer ⟨.value (.tmp tf), #[], at1⟩ ∧ df.dst = none ∧ df.guard = none)
    (hmv : mv.op = .move (.tmp T.td) ∧ mv.dst = some t8 ∧ mv.guard = none) (hcal : cal.op = .call ⟨.value (.tmp t8), #[], at2⟩ ∧ cal.dst ≠ some T.tp ∧ cal.guard = none)
    (hst : st.op = .store T.et (.tmp T.tp) (.const T.z) ∧ plainV T.z = true ∧ st.dst = none ∧ st.guard = none)
    (hlt : tf < T.fn.ntmps ∧ t8 < T.fn.ntmps ∧ tf ≠ T.tp ∧ t8 ≠ T.tp ∧ tf ≠ T.td)
    (hfd : P.funcs[fd]? = some T.fnd) (hokd : T.fnd.name != "runtime.NumGoroutine") (hbd : T.fnd.body = some (.seq (.region i0 #[rc, as1] false) T.rest)) (hresd : T.fnd.results = #[])
    (hrc : rc.op = .call ⟨.builtin .recover, #[], at3⟩ ∧ rc.dst = some T.tr ∧ rc.guard = none) (has : as1.op = .assign (.tmp T.tr) ∧ as1.dst = some T.t1 ∧ as1.guard = none)
    (hltd : T.tr < T.fnd.ntmps ∧ T.t1 < T.fnd.ntmps) (ok0 : codeOk ng T.fn.ntmps T.r0 = true) (okg : codeOk ng T.fn.ntmps T.g = true) (okr : codeOk ng T.fnd.ntmps T.rest = true) :
    CallOkAt P ng f (tryF P T fuel cl) := by
  have enter : ∀ {f : FuncId} {fn : Func}, P.funcs[f]? = some fn → (fn.name != "runtime.NumGoroutine") = true → (∃ c, fn.body = some c) → Enter P f := by
    intro f fn h1 h2 ⟨c, h3⟩ args w
    simp only [bne_iff_ne, ne_eq] at h2
    simp [callFunc, h1, h2, h3]
  letI i1 : Ds T.fn.ntmps := ⟨[]⟩
  letI i2 : Ds T.fnd.ntmps := ⟨[]⟩
  intro args h o h' hr hwf
  refine ⟨enter hf hok ⟨_, hb⟩, ?_⟩
  -- the way the closure ends it
  have fin : ∀ (p v : Value) (h3 : Heap), tryEnd P T cl fuel p v h3 = some (o, h') → HWf h3 → HWf h' ∧ h3.nx ≤ h'.nx ∧
      ∀ (N : Nat) (F : Nat → Option Blk) (m : Mp) (w : World) (p' v' : Value) (tmps : Array Value) (R : Ending → World → Prop) (u : FrameMode), h'.nx ≤ N → HRel m (mix h3 N F) w → GlobOk ng m → VRel m p p' → VRel m v v' →
        tmps.getD T.tp undef = p' → ((v' = .nilIface ∧ u = .returning) ∨ u = .panicking [{ v := v', recovered := false }]) →
        (∀ m' w' e, ORel m' o e → HRel m' (mix h' N F) w' → Step m w m' w' → R e w') →
        Leaves P T.fn tmps R [{ target := .fn (.func fd) #[p'], args := #[] }] u w := by
    intro p v h3 hr hwf3
    unfold tryEnd at hr
    split at hr <;> try (simp at hr; done)
    rename_i e4 h4 hrun
    split at hr <;> try (simp at hr; done)
    rename_i fl hl
    simp only [Option.some.injEq, Prod.mk.injEq] at hr
    obtain ⟨rfl, rfl⟩ := hr
    obtain ⟨a1, a2, a3⟩ := (engine_ok hm hcl fuel).1 _ _ _ _ _ _ okr hrun hwf3
    refine ⟨a1, a2, fun N F m w p' v' tmps R u hN hh hg hp hv htp hu hR => ?_⟩
    refine ⟨by rcases hu with ⟨_, rfl⟩ | rfl <;> simp, .func fd, #[p'], fd, #[p'], rfl, ?_, ?_⟩
    · show (callFunc fd (#[] ++ #[p'])).run P w = _
      rw [enter hfd hokd ⟨_, hbd⟩]
      rfl
    · refine callsD_of_wpS hfd hbd fun c₀ cs hc => ?_
      apply wpS_seq
      apply wpS_region
      have hsz : ∀ t, t < T.fnd.ntmps → t < (#[p'] ++ Array.replicate (T.fnd.ntmps - (#[p'] : Array Value).size) undef).size := by
        intro t ht
        simp
        omega
      generalize hA : ({ tmps := #[p'] ++ Array.replicate (T.fnd.ntmps - (#[p'] : Array Value).size) undef, defers := [] } : Act) = A
      have hAr : ARel m (Env.at (storeL .leaf 0 [p])) A T.fnd.ntmps := by
        rw [← hA]
        exact args_rel (args := [p]) (args' := [p']) (.cons _ _ _ _ hp .nil) T.fnd.ntmps
      have hAsz : ∀ t, t < T.fnd.ntmps → t < A.tmps.size := by rw [← hA]; exact hsz
      -- what comes behind 'recover'
      have key : ∀ cs' u', cs' = { c₀ with mode := u' } :: cs → settle u' = .returning →
          wpOpsS P #[rc, as1] (Exit.thenS (T.rest.wpS P (bodyPostS P T.fnd c₀ cs fun
            | .returned _, u', w' => Leaves P T.fn tmps R [] (settle u') w'
            | .panicked chain, u', w' => Leaves P T.fn tmps R [] (raised u' chain) w'
            | .outgrown, _, w' => R .outgrown w')) (bodyPostS P T.fnd c₀ cs fun
            | .returned _, u', w' => Leaves P T.fn tmps R [] (settle u') w'
            | .panicked chain, u', w' => Leaves P T.fn tmps R [] (raised u' chain) w'
            | .outgrown, _, w' => R .outgrown w')) [1] (A.put rc.dst v') cs' w := by
        intro cs' u' hcs hset
        have hev : (A.put rc.dst v').eval (.tmp T.tr) = v' := by
          rw [hrc.2.1]
          exact put_eq (hAsz _ hltd.1)
        have hex : (execOp (A.put rc.dst v').eval as1).run P w = .ok (.value v') w := by
          simp only [execOp, has.1, hev, Sem.run_pure]
        unfold wpOpsS
        simp only [List.getElem?_toArray, List.getElem?_cons_succ, List.getElem?_cons_zero]
        rw [if_pos (wanted_noneT has.2.2 _)]
        rw [hex]
        show T.rest.wpS P _ ((A.put rc.dst v').put as1.dst v') cs' w
        apply wpS_of_wp
        have hAr2 : ARel m (Env.at (Env.put (Env.put (storeL .leaf 0 [p]) (some T.tr) v) (some T.t1) v)) ((A.put rc.dst v').put as1.dst v') T.fnd.ntmps := by
          rw [Env.put_at, Env.put_at, hrc.2.1, has.2.1]
          refine (hAr.put hv ?_).put hv ?_
          · intro t ht; cases ht; exact hltd.1
          · intro t ht; cases ht; exact hltd.2
        refine a3 N F m w _ _ hN hh hg hAr2 ?_
        intro m' w' a' x q1 q2 q3 q4
        have : x = .normal := q4
        subst this
        refine ⟨q3.def_, u', hcs, .tuple #[], ?_, ?_⟩
        · rw [results_eq, hresd]; simp
        · show Leaves P T.fn tmps R [] (settle u') w'
          rw [hset]
          obtain ⟨v2, b1, b2⟩ := load_pure q1 a1 hN (hp.mono q2.ext) hl
          refine ⟨v2, ?_, hR m' w' _ ⟨v2, rfl, b2⟩ q1 q2⟩
          rw [results_eq, hres]
          have e1 : (#[ResultVar.cell T.tp T.et].mapM (resSem tmps)).run P w' = .ok #[v2] w' := by
            simp only [Array.mapM_eq_mapM_toList, List.mapM_cons, List.mapM_nil, resSem, htp, Sem.run_map, Sem.run_bind, b1, Result.andThen_ok, Sem.run_pure]
          simp only [Sem.run_bind, e1, Result.andThen_ok, Sem.run_pure]
          rfl
      have hex : (execOp A.eval rc).run P w = .ok .recover w := by
        simp only [execOp, hrc.1, resolve, Sem.run_bind, Sem.run_pure, Result.andThen_ok, invoke]
        rfl
      show wpOpsS P #[rc, as1] _ [0, 1] A (c₀ :: cs) w
      unfold wpOpsS
      simp only [List.getElem?_toArray, List.getElem?_cons_zero]
      rw [if_pos (wanted_noneT hrc.2.2 _)]
      rw [hex]
      rcases hu with ⟨rfl, rfl⟩ | rfl
      · have hrd : recoverD (c₀ :: cs) = none := by simp [recoverD, hc]
        simp only [hrd]
        exact key (c₀ :: cs) .returning (by cases c₀; simp_all) rfl
      · have hrd : recoverD (c₀ :: cs) = some (v', { c₀ with mode := .panicking [{ v := v', recovered := true }] } :: cs) := by simp [recoverD, hc]
        simp only [hrd]
        exact key _ (.panicking [{ v := v', recovered := true }]) rfl rfl
  -- the function itself
  unfold tryF at hr
  split at hr <;> try (simp at hr; done)
  rename_i e0 h0 hr0
  have c0 := (engine_ok hm hcl fuel).1 _ _ _ _ _ _ ok0 hr0 hwf
  obtain ⟨w0, n0, k0⟩ := c0
  split at hr <;> try (simp at hr; done)
  · -- the early end
    rename_i e1 h1 hrg
    obtain ⟨w1, n1, k1⟩ := (engine_ok hm hcl fuel).1 _ _ _ _ _ _ okg hrg w0
    split at hr <;> try (simp at hr; done)
    rename_i v hv
    simp only [Option.some.injEq, Prod.mk.injEq] at hr
    obtain ⟨rfl, rfl⟩ := hr
    refine ⟨w1, Nat.le_trans n0 n1, fun N F m w args' hN hh hg ha => calls_of_wp_defers hf hb (wp_seq ?_)⟩
    refine k0 N F m w _ _ (Nat.le_trans n1 hN) hh hg (args_rel ha _) ?_
    intro m1 x1 a1 x q1 q2 q3 q4
    have : x = .normal := q4
    subst this
    refine wp_seq ?_
    refine k1 N F m1 x1 a1 _ hN q1 (hg.mono q2.ext) q3 ?_
    intro m2 x2 a2 x p1 p2 p3 p4
    have : x = .ret := p4
    subst this
    show Leaves P T.fn a2.tmps _ a2.defers .returning x2
    rw [p3.def_]
    obtain ⟨v', r1, r2⟩ := resultV_ok p1 w1 hN p3 hv
    exact ⟨v', r1, m2, ⟨v', rfl, r2⟩, p1, q2.trans p2⟩
  · rename_i e1 h1 hrg
    obtain ⟨w1, n1, k1⟩ := (engine_ok hm hcl fuel).1 _ _ _ _ _ _ okg hrg w0
    split at hr <;> try (simp at hr; done)
    rename_i fc first captured hdo
    -- what is done up to the call, then what is known of the call
    have front : ∀ (h2 : Heap) (oc : Out), cl fc (first.toList ++ captured.toList) h1 = some (oc, h2) → HWf h2 ∧ h1.nx ≤ h2.nx ∧
        ∀ (N : Nat) (F : Nat → Option Blk) (m : Mp) (w : World) (args' : List Value) (R : Ending → World → Prop), h2.nx ≤ N → HRel m (mix h N F) w → GlobOk ng m → VRels m args args' →
          (∀ m' w' (a : Act) p', HRel m' (mix h2 N F) w' → Step m w m' w' → VRel m' (e1.at T.tp) p' → a.tmps.getD T.tp undef = p' → a.defers = [{ target := .fn (.func fd) #[p'], args := #[] }] → a.tmps.size ≥ T.fn.ntmps →
            (match oc with
              | .ret _ => (Code.seq (.region i5 #[st] false) .ret).wp P (bodyPostD P T.fn R) a w'
              | .pan v => ∀ v', VRel m' v v' → Leaves P T.fn a.tmps R a.defers (.panicking [{ v := v', recovered := false }]) w')) →
          Calls P f args'.toArray w R := by
      intro h2 oc hq
      obtain ⟨hen, w2, n2, hcall⟩ := hcl _ _ _ _ _ hq w1
      refine ⟨w2, n2, fun N F m w args' R hN hh hg ha hK => calls_of_wp_defers hf hb (wp_seq ?_)⟩
      refine k0 N F m w _ _ (by omega) hh hg (args_rel ha _) ?_
      intro m1 x1 a1 x q1 q2 q3 q4
      have : x = .normal := q4
      subst this
      refine wp_seq ?_
      refine k1 N F m1 x1 a1 _ (by omega) q1 (hg.mono q2.ext) q3 ?_
      intro m2 x2 a2 x p1 p2 p3 p4
      have : x = .normal := p4
      subst this
      have hst2 := q2.trans p2
      -- the closure is made and deferred
      refine wp_seq (wp_region ?_)
      show wpOps P #[mk, df] _ [0, 1] a2 x2
      generalize hp' : a2.tmps.getD T.tp undef = p'
      have hvp : VRel m2 (e1.at T.tp) p' := by rw [← hp']; exact p3.tm T.tp
      refine wpOps_step (o := mk) rfl (wanted_noneT hmk.2.2 _) ?_
      have e1mk : a2.eval (.tmp T.tp) = p' := hp'
      refine op_value (w' := x2) (v := .func (.func fd) #[] #[p']) ?_ ?_
      · simp [execOp, hmk.1, Instr.makeFunc, e1mk]
      refine wpOps_step (o := df) rfl (wanted_noneT hdf.2.2 _) ?_
      have hev : (a2.put mk.dst (.func (.func fd) #[] #[p'])).eval (.tmp tf) = .func (.func fd) #[] #[p'] := by
        rw [hmk.2.1]
        exact put_eq (Nat.lt_of_lt_of_le hlt.1 p3.size)
      unfold Oper.wp
      have hexd : (execOp (a2.put mk.dst (.func (.func fd) #[] #[p'])).eval df).run P x2 = .ok (.defer { target := .fn (.func fd) #[p'], args := #[] }) x2 := by
        simp [execOp, hdf.1, resolve, hev, Deferred.ofValue]
      rw [hexd]
      rw [Oper.upon_defer]
      rw [hdf.2.1, put_def, p3.def_]
      generalize hA3 : (Act.put { (a2.put mk.dst (.func (.func fd) #[] #[p'])) with defers := [{ target := .fn (.func fd) #[p'], args := #[] }] } none undef) = a3
      have t3 : ∀ t, t ≠ tf → a3.tmps.getD t undef = a2.tmps.getD t undef := by
        intro t ht
        rw [← hA3]
        show (a2.put mk.dst (.func (.func fd) #[] #[p'])).tmps.getD t undef = _
        rw [hmk.2.1]
        exact put_ne (by simpa using Ne.symm ht)
      have s3 : a3.tmps.size = a2.tmps.size := by
        rw [← hA3]
        show (a2.put mk.dst (.func (.func fd) #[] #[p'])).tmps.size = _
        exact put_size
      have d3 : a3.defers = [{ target := .fn (.func fd) #[p'], args := #[] }] := by rw [← hA3]; rfl
      -- the call
      refine wp_seq (wp_region ?_)
      show wpOps P #[mv, cal] _ [0, 1] a3 x2
      refine wpOps_step (o := mv) rfl (wanted_noneT hmv.2.2 _) ?_
      have hvd : VRel m2 (.func (.func fc) first captured) (a3.eval (.tmp T.td)) := by
        show VRel m2 _ (a3.tmps.getD T.td undef)
        rw [t3 _ (Ne.symm hlt.2.2.2.2), ← hdo]
        exact p3.tm T.td
      generalize hdv : a3.eval (.tmp T.td) = dv at hvd
      refine op_value (w' := x2) (v := dv) (by simp only [execOp, hmv.1, hdv, Sem.run_pure]) ?_
      refine wpOps_step (o := cal) rfl (wanted_noneT hcal.2.2 _) ?_
      have hev8 : (a3.put mv.dst dv).eval (.tmp t8) = dv := by
        rw [hmv.2.1]
        exact put_eq (Nat.lt_of_lt_of_le hlt.2.1 (by rw [s3]; exact p3.size))
      cases hvd with
      | func _ _ _ first' captured' g1 g2 =>
      unfold Oper.wp
      have hexc : (execOp (a3.put mv.dst (.func (.func fc) first' captured')).eval cal).run P x2 = .ok (.enter fc (first'.toList ++ captured'.toList).toArray) x2 := by
        simp only [execOp, hcal.1, resolve, hev8, Deferred.ofValue, Sem.run_bind, Sem.run_pure, Result.andThen_ok, invoke]
        rw [hen]
        congr 2
        apply Array.ext'
        simp
      rw [hexc]
      show Calls P fc _ x2 _
      refine (hcall N F m2 x2 _ hN p1 (hg.mono hst2.ext) (g1.append g2)).mono ?_
      rintro e x3 ⟨m3, ho, r1, r2⟩
      have base : ∀ a4 : Act, a4.tmps.getD T.tp undef = a3.tmps.getD T.tp undef → a4.defers = a3.defers → a4.tmps.size = a3.tmps.size → (match (generalizing := false) oc with
              | .ret _ => (Code.seq (.region i5 #[st] false) .ret).wp P (bodyPostD P T.fn R) a4 x3
              | .pan v => ∀ v', VRel m3 v v' → Leaves P T.fn a4.tmps R a4.defers (.panicking [{ v := v', recovered := false }]) x3) := by
        intro a4 z1 z2 z3
        refine hK m3 x3 a4 p' r1 (hst2.trans r2) (hvp.mono r2.ext) ?_ (by rw [z2, d3]) (by rw [z3, s3]; exact p3.size)
        rw [z1, t3 _ (Ne.symm hlt.2.2.1), hp']
      cases oc with
      | ret v =>
        obtain ⟨v', rfl, hv'⟩ := ho
        show (Code.seq (.region i5 #[st] false) .ret).wp P (bodyPostD P T.fn R) ((a3.put mv.dst _).put cal.dst v') x3
        refine base _ ?_ ?_ ?_
        · rw [put_ne hcal.2.1, put_ne (by rw [hmv.2.1]; simpa using hlt.2.2.2.1)]
        · rw [put_def, put_def]
        · rw [put_size, put_size]
      | pan v =>
        obtain ⟨v', rfl, hv'⟩ := ho
        show Leaves P T.fn (a3.put mv.dst _).tmps R (a3.put mv.dst _).defers (.panicking [{ v := v', recovered := false }]) x3
        exact base (a3.put mv.dst _) (put_ne (by rw [hmv.2.1]; simpa using hlt.2.2.2.1)) put_def put_size v' hv'
    split at hr <;> try (simp at hr; done)
    · -- it returned
      rename_i vr h2 hq
      obtain ⟨w2, n2, hfront⟩ := front _ _ hq
      split at hr <;> try (simp at hr; done)
      rename_i fs hfs
      have hap := HWf.apply w2 (f := fs) (eff_ok (op := .store T.et (.tmp T.tp) (.const T.z)) (ρ := fun y => match y with | .tmp t => e1.at t | .const v => v | .global g => .pointer (some ⟨g, 0, none⟩) | .func f => .func (.func f) #[] #[]) (nx := h2.nx) hfs)
      obtain ⟨w3, n3, hfin⟩ := fin _ _ _ hr hap.1
      refine ⟨w3, by omega, fun N F m w args' hN hh hg ha => hfront N F m w args' _ (by omega) hh hg ha ?_⟩
      intro m2 x2 a p' b1 b2 b3 b4 b5 b6
      show (Code.seq (.region i5 #[st] false) .ret).wp P _ a x2
      refine wp_seq (wp_region ?_)
      show wpOps P #[st] _ [0] a x2
      refine wpOps_step (o := st) rfl (wanted_noneT hst.2.2.2 _) ?_
      have heff : eff P st.op (fun y => match y with | .tmp t => e1.at t | .const v => v | .global g => .pointer (some ⟨g, 0, none⟩) | .func f => .func (.func f) #[] #[]) h2.get h2.nx = some fs := by
        rw [hst.1]; exact hfs
      obtain ⟨r, x3, m3, v3, g1, g2, g3, g4, g5⟩ := eff_does (ρ' := a.eval) b1 w2 (by omega) (by omega) (by
        rw [hst.1]
        intro y hy
        simp only [Op.operands] at hy
        rcases List.mem_cons.1 hy with rfl | hy
        · show VRel m2 (e1.at T.tp) (a.tmps.getD T.tp undef)
          rw [b4]; exact b3
        · rcases List.mem_cons.1 hy with rfl | hy
          · exact plainV_rel hst.2.1
          · simp at hy) heff
      have fin2 : ∀ v3', wpOps P #[st] (Exit.then (Code.ret.wp P (bodyPostD P T.fn fun e w' => ∃ m', ORel m' o e ∧ HRel m' (mix h' N F) w' ∧ Step m w m' w')) (bodyPostD P T.fn fun e w' => ∃ m', ORel m' o e ∧ HRel m' (mix h' N F) w' ∧ Step m w m' w')) [] (a.put st.dst v3') x3 := by
        intro v3'
        show Code.ret.wp P _ (a.put st.dst v3') x3
        refine wp_ret ?_
        show Leaves P T.fn (a.put st.dst v3').tmps _ (a.put st.dst v3').defers .returning x3
        rw [put_def, b5]
        refine hfin N F m3 x3 p' .nilIface _ _ .returning hN g4 (hg.mono (b2.trans g5).ext) (b3.mono g5.ext) .nilIface (by rw [put_ne (by rw [hst.2.2.1]; simp)]; exact b4) (.inl ⟨rfl, rfl⟩) ?_
        intro m4 x4 e u1 u2 u3
        exact ⟨m4, u1, u2, (b2.trans g5).trans u3⟩
      unfold Oper.wp
      rw [g1]
      rcases g2 with rfl | ⟨rfl, rfl⟩
      · exact fin2 _
      · exact fin2 _
    · -- it panicked
      rename_i vp h2 hq
      obtain ⟨w2, n2, hfront⟩ := front _ _ hq
      obtain ⟨w3, n3, hfin⟩ := fin _ _ _ hr w2
      refine ⟨w3, by omega, fun N F m w args' hN hh hg ha => hfront N F m w args' _ (by omega) hh hg ha ?_⟩
      intro m2 x2 a p' b1 b2 b3 b4 b5 b6
      show ∀ v', VRel m2 vp v' → Leaves P T.fn a.tmps _ a.defers (.panicking [{ v := v', recovered := false }]) x2
      intro v' hv'
      rw [b5]
      refine hfin N F m2 x2 p' v' _ _ _ hN b1 (hg.mono b2.ext) b3 hv' b4 (.inr rfl) ?_
      intro m4 x4 e u1 u2 u3
      exact ⟨m4, u1, u2, b2.trans u3⟩
end
/- ## taken from the functions' texts -/
def seqL : Code → Code
  | .seq a _ => a
  | c => c
def seqR : Code → Code
  | .seq _ b => b
  | c => c
def opOf : Code → Nat → Oper
  | .region _ ops _, i => (ops.toList[i]?).getD { dst := none, op := .ready 0, type := 0, pos := "", after := #[], guard := none }
  | _, _ => { dst := none, op := .ready 0, type := 0, pos := "", after := #[], guard := none }
def bodyOf (f : Func) : Code := match f.body with
  | some c => c
  | none => .skip
def oneSpec (f0 : FuncId) (F : Caller → List Value → Heap → Option (Out × Heap)) : Special := fun f => cond (Nat.beq f f0) (some F) none
theorem oneSpec_ok {f0 : FuncId} {F : Caller → List Value → Heap → Option (Out × Heap)} (h : ∀ cl, CallOk P ng cl → CallOkAt P ng f0 (F cl)) : SpecOk P ng (oneSpec f0 F) := by
  intro f G hG cl hcl
  unfold oneSpec at hG
  cases hb : Nat.beq f f0 with
  | false => rw [hb] at hG; simp at hG
  | true =>
    rw [hb] at hG
    simp only [cond_true, Option.some.injEq] at hG
    subst hG
    have := Nat.eq_of_beq_eq_true hb
    subst this
    exact h cl hcl
end Go.AM
end
section
/- A call without arguments that gave true in a run of its own: a special for it, in a seat whose rows list a table. -/
namespace Go.AM
variable {P : Program}

noncomputable def trueF (g : Nat) (k : IntKind) (bs : List Int) (_ : Caller) (args : List Value) (h : Heap) : Option (Out × Heap) :=
  match args with
  | [] => cond (beqB (h.get g) (some (tabBlk k bs))) (some (.ret (.bool true), h)) none
  | _ => none
def orSpec (a b : Special) : Special := fun f => match a f with
  | some F => some F
  | none => b f
theorem orSpec_ok {ng : Nat} {a b : Special} (ha : SpecOk P ng a) (hb : SpecOk P ng b) : SpecOk P ng (orSpec a b) := by
  intro f G hG cl hcl
  unfold orSpec at hG
  split at hG
  · rename_i F hF
    simp only [Option.some.injEq] at hG
    subst hG
    exact ha f F hF cl hcl
  · exact hb f G hG cl hcl

theorem trueF_ok {g : Nat} {k : IntKind} {bs : List Int} {cl0 : Caller} (hcl0 : CallOk P (g + 1) cl0) {f : FuncId} (hrun : isTrue (cl0 f [] (listHeap (doorL g k bs ++ []))) = true) (cl : Caller) : CallOkAt P (g + 1) f (trueF g k bs cl) := by
  cases hq : cl0 f [] (listHeap (doorL g k bs ++ [])) with
  | none => rw [hq] at hrun; simp [isTrue] at hrun
  | some q =>
    obtain ⟨o0, h0⟩ := q
    rw [hq] at hrun
    have ho : o0 = .ret (.bool true) := by
      unfold isTrue at hrun
      split at hrun
      · rename_i b _ heq
        simp only [Option.some.injEq, Prod.mk.injEq] at heq
        rw [heq.1, hrun]
      · simp at hrun
    subst ho
    obtain ⟨hen, _, hnx, hc⟩ := hcl0 f [] _ _ h0 hq (listHeap_wf _)
    intro args h o h' hr hwf
    unfold trueF at hr
    split at hr <;> try (simp at hr; done)
    cases hb : beqB (h.get g) (some (tabBlk k bs)) with
    | false => rw [hb] at hr; simp at hr
    | true =>
      rw [hb] at hr
      simp only [cond_true, Option.some.injEq, Prod.mk.injEq] at hr
      obtain ⟨rfl, rfl⟩ := hr
      have hg := beqB_eq hb
      refine ⟨hen, hwf, Nat.le_refl _, fun N F m w args' hN hh hgl ha => ?_⟩
      cases ha
      have hbr := hh.at hwf hN hg
      -- the table's place
      obtain ⟨l, hm, hl1, hl2, hl3⟩ : ∃ l, m g = .live l ∧ l.cb = g ∧ l.sh = 0 ∧ l.rw = false := by
        rcases hgl g (Nat.lt_succ_self g) with ⟨l, h1, h2, h3, h4⟩ | h1
        · exact ⟨l, h1, h2, h3, h4⟩
        · rw [h1] at hbr; exact hbr.elim
      rw [hm] at hbr
      obtain ⟨b1, c, el, fr, b2, b3, b4, b5, b6⟩ := hbr
      let M0 : Mp := fun b => if b < g then .dead else if b = g then .live l else .fresh
      have hM : ∀ b l', M0 b = .live l' → b = g ∧ l' = l := by
        intro b l' hb'
        by_cases h1 : b < g
        · simp only [M0, if_pos h1] at hb'; cases hb'
        · by_cases h2 : b = g
          · simp only [M0, if_neg h1, if_pos h2] at hb'; cases hb'; exact ⟨h2, rfl⟩
          · simp only [M0, if_neg h1, if_neg h2] at hb'; cases hb'
      have hMg : M0 g = .live l := by simp [M0]
      have hrel : HRel M0 (mix (listHeap (doorL g k bs ++ [])) h0.nx fun _ => none) w := by
        refine ⟨fun b => ?_, fun b b' l1 l2 h1 h2 _ _ => by rw [(hM b l1 h1).1, (hM b' l2 h2).1]⟩
        have hlen : (doorL g k bs ++ []).length = g + 1 := by simp [doorL]
        have hnx' : g + 1 ≤ h0.nx := by rw [← hlen]; exact hnx
        unfold mix
        rw [listHeap_get]
        by_cases h1 : b < g
        · have e : (doorL g k bs ++ [])[b]? = some .dead := by
            rw [List.append_nil]; unfold doorL
            rw [List.getElem?_append_left (by simpa using h1), List.getElem?_replicate, if_pos h1]
          rw [if_pos (by omega), e]
          simp only [M0, if_pos h1]
          trivial
        · by_cases h2 : b = g
          · subst h2
            have e : (doorL b k bs ++ [])[b]? = some (tabBlk k bs) := by
              rw [List.append_nil]; unfold doorL
              rw [List.getElem?_append_right (by simp)]
              simp
            rw [if_pos (by omega), e, hMg]
            refine ⟨b1, c, el, fr, b2, b3, b4, b5, fun i hi => ?_⟩
            obtain ⟨v, v', a1, a2, a3, a4⟩ := b6 i hi
            refine ⟨v, v', a1, a2, a3, ?_⟩
            rw [get_ofList, List.getElem?_map, List.getElem?_eq_getElem hi, Option.map_some] at a1
            simp only [Option.some.injEq] at a1
            subst a1
            cases a4
            exact .int _ _
          · have e : (doorL g k bs ++ [])[b]? = none := List.getElem?_eq_none (by rw [hlen]; omega)
            rw [e]
            simp only [M0, if_neg h1, if_neg h2]
            split <;> trivial
      refine (hc h0.nx (fun _ => none) M0 w [] (Nat.le_refl _) hrel ?_ .nil).mono ?_
      · intro x hx
        by_cases h1 : x < g
        · exact .inr (by simp [M0, h1])
        · have : x = g := by omega
          subst this
          exact .inl ⟨l, hMg, hl1, hl2, hl3⟩
      · rintro e w' ⟨m', ⟨v', rfl, hv⟩, _, hst⟩
        cases hv
        have hkeep : ∀ cb, cb < w.heap.size → w'.heap[cb]? = w.heap[cb]? := fun cb hcb => hst.keep cb hcb fun b l' hl' hrw => by
          rw [(hM b l' hl').2, hl3] at hrw; cases hrw
        refine ⟨m, ⟨_, rfl, .bool true⟩, ⟨fun b => (hh.blk b).mono (.refl m) fun l' hl' => hkeep _ (hh.lt hl'), hh.inj⟩, ?_⟩
        exact ⟨.refl m, hst.size, hst.os, hst.out, fun cb hcb _ => hkeep cb hcb, fun b l' hl' hr' => .inr ⟨b, l', hl', hr', rfl⟩, fun b l' hl' _ => hl'⟩
end Go.AM
end
section
/- Specials for the library's texts: IndexByte, Compare, Repeat, a Builder's copyCheck and String. -/
namespace Go.AM
open Go.Proofs Go.Shelf Go.RowKit
variable {P : Program} {ρ : Ren} {ng : Nat}

/- ## what is new and none's -/
theorem HRel.other {m : Mp} {G : Nat → Option Blk} {w w' : World} (h : HRel m G w) (hw : ∀ b l, m b = .live l → w'.heap[l.cb]? = w.heap[l.cb]?) : HRel m G w' :=
  ⟨fun b => (h.blk b).mono (.refl m) (fun l hl => hw b l hl), h.inj⟩
theorem HRel.below {m : Mp} {G : Nat → Option Blk} {w w' : World} (h : HRel m G w) (hb : Below w.heap.size w w') : HRel m G w' ∧ Step m w m w' :=
  ⟨h.other fun _ _ hl => hb.block _ (h.lt hl), .refl m, hb.size, hb.os, hb.output, fun cb hc _ => hb.block cb hc, fun b l hl hr => .inr ⟨b, l, hl, hr, rfl⟩, fun _ _ hl _ => hl⟩

noncomputable def pureF (v : List Value → Option Value) (_ : Caller) (args : List Value) (h : Heap) : Option (Out × Heap) := (v args).map fun r => (.ret r, h)
theorem pureF_ok {v : List Value → Option Value} {f : FuncId} (hen : Enter P f)
    (hv : ∀ args r, v args = some r → args.all plainCell = true ∧ plainCell r = true ∧ ∀ w, Calls P f args.toArray w fun e w' => e = .returned r ∧ Below w.heap.size w w') (cl : Caller) :
    CallOkAt P ng f (pureF v cl) := by
  intro args h o h' hr hwf
  unfold pureF at hr
  obtain ⟨r, h1, h2⟩ := Option.map_eq_some_iff.1 hr
  simp only [Prod.mk.injEq] at h2
  obtain ⟨rfl, rfl⟩ := h2
  obtain ⟨p1, p2, p3⟩ := hv args r h1
  refine ⟨hen, hwf, Nat.le_refl _, fun N F m w args' hN hh hgl ha => ?_⟩
  rw [plainCells_eq p1 ha]
  refine (p3 w).mono ?_
  rintro e w' ⟨rfl, hb⟩
  obtain ⟨q1, q2⟩ := hh.below hb
  exact ⟨m, ⟨r, rfl, (plainCell_rel p2).1⟩, q1, q2⟩

/- ## IndexByte -/
noncomputable def idxA (l : List UInt8) (c : Nat) (i : Nat) : Int :=
  List.rec (motive := fun _ => Nat → Int) (fun _ => Int.negSucc 0) (fun b _ ih i => cond (Nat.beq b.toNat c) (Int.ofNat i) (ih (Nat.succ i))) l i
theorem idxA_eq (l : List UInt8) (c : UInt8) : ∀ i, idxA l c.toNat i = if Lib.indexByte l c = -1 then -1 else Lib.indexByte l c + i := by
  have hnn : ∀ l : List UInt8, Lib.indexByte l c = -1 ∨ 0 ≤ Lib.indexByte l c := by
    intro l
    induction l with
    | nil => exact .inl rfl
    | cons b r ih =>
      unfold Lib.indexByte
      by_cases h1 : (b == c) = true
      · rw [if_pos h1]; exact .inr (by omega)
      · rw [if_neg h1]
        by_cases h2 : (Lib.indexByte r c == -1) = true
        · rw [if_pos h2]; exact .inl rfl
        · rw [if_neg h2]
          rcases ih with h | h
          · exact absurd (by rw [h]; rfl) h2
          · exact .inr (by omega)
  induction l with
  | nil => intro i; rfl
  | cons b r ih =>
    intro i
    show cond (Nat.beq b.toNat c.toNat) (Int.ofNat i) (idxA r c.toNat (i + 1)) = _
    unfold Lib.indexByte
    by_cases h1 : b = c
    · subst h1
      rw [Nat.beq_refl]
      simp
    · have h2 : Nat.beq b.toNat c.toNat = false := by
        rw [← Bool.not_eq_true, Nat.beq_eq]
        exact fun e => h1 (UInt8.toNat_inj.1 e)
      rw [h2, cond_false, ih]
      have h3 : (b == c) = false := by simpa using h1
      rw [h3]
      simp only [Bool.false_eq_true, if_false]
      by_cases h4 : Lib.indexByte r c = -1
      · simp [h4]
      · have h5 := (hnn r).resolve_left h4
        have h6 : (Lib.indexByte r c == -1) = false := by simpa using h4
        rw [if_neg h4, h6]
        simp only [Bool.false_eq_true, if_false]
        rw [if_neg (by omega), Int.natCast_succ]
        omega
noncomputable def idxV (args : List Value) : Option Value := match args with
  | [.string s, .int .u8 (.ofNat c)] => cond (Nat.blt c 256) (some (.int .i64 (idxA s.data.toList c 0))) none
  | _ => none
theorem idxF_ok (L : Lays.n217 P ρ) (hen : Enter P (ρ.f 217)) (cl : Caller) : CallOkAt P ng (ρ.f 217) (pureF idxV cl) := by
  refine pureF_ok hen ?_ cl
  intro args r hr
  unfold idxV at hr
  split at hr <;> try (simp at hr; done)
  rename_i s c
  cases hc : Nat.blt c 256 with
  | false => rw [hc] at hr; simp at hr
  | true =>
    rw [hc] at hr
    simp only [cond_true, Option.some.injEq] at hr
    subst hr
    have hc : c < 256 := by simpa [Nat.blt_eq] using hc
    refine ⟨rfl, rfl, fun w => (Any.stringslite_IndexByte L s (.ofNat c) w).mono ?_⟩
    rintro e w' ⟨rfl, rfl⟩
    refine ⟨?_, Below.refl _ _⟩
    have := idxA_eq s.data.toList c.toUInt8 0
    have hcn : c.toUInt8.toNat = c := by simp [Nat.toUInt8]; omega
    rw [hcn] at this
    rw [this]
    show Ending.returned (.int .i64 (Lib.indexByte s.data.toList c.toUInt8)) = _
    congr 2
    by_cases h : Lib.indexByte s.data.toList c.toUInt8 = -1
    · rw [if_pos h]; exact h
    · rw [if_neg h]; simp

/- ## Compare -/
noncomputable def cmpA (a b : List UInt8) : Int :=
  List.rec (motive := fun _ => List UInt8 → Int) (fun b => List.rec (motive := fun _ => Int) (Int.ofNat 0) (fun _ _ _ => Int.negSucc 0) b)
    (fun x _ ih b => List.rec (motive := fun _ => Int) (Int.ofNat 1) (fun y s _ => cond (Nat.blt x.toNat y.toNat) (Int.negSucc 0) (cond (Nat.blt y.toNat x.toNat) (Int.ofNat 1) (ih s))) b) a b
theorem cmpA_eq : ∀ (a b : List UInt8), cmpA a b = Lib.compareBytes a b
  | [], [] => rfl
  | [], _ :: _ => rfl
  | _ :: _, [] => rfl
  | x :: a, y :: b => by
    show cond (Nat.blt x.toNat y.toNat) (Int.negSucc 0) (cond (Nat.blt y.toNat x.toNat) (Int.ofNat 1) (cmpA a b)) = _
    unfold Lib.compareBytes
    rw [cmpA_eq a b]
    have e1 : Nat.blt x.toNat y.toNat = decide (x < y) := by
      rw [Bool.eq_iff_iff, Nat.blt_eq, decide_eq_true_iff, UInt8.lt_iff_toNat_lt]
    have e2 : Nat.blt y.toNat x.toNat = decide (y < x) := by
      rw [Bool.eq_iff_iff, Nat.blt_eq, decide_eq_true_iff, UInt8.lt_iff_toNat_lt]
    rw [e1, e2]
    by_cases h1 : x < y
    · simp [h1]
    · by_cases h2 : y < x <;> simp [h1, h2]
noncomputable def cmpV (args : List Value) : Option Value := match args with
  | [.string s, .string t] => some (.int .i64 (cmpA s.data.toList t.data.toList))
  | _ => none
theorem cmpF_ok (L : Lays.n213 P ρ) (hen : Enter P (ρ.f 213)) (cl : Caller) : CallOkAt P ng (ρ.f 213) (pureF cmpV cl) := by
  refine pureF_ok hen ?_ cl
  intro args r hr
  unfold cmpV at hr
  split at hr <;> try (simp at hr; done)
  rename_i s t
  simp only [Option.some.injEq] at hr
  subst hr
  refine ⟨rfl, rfl, fun w => (Any.bytealg_CompareString L s t w).mono ?_⟩
  rintro e w' ⟨rfl, rfl⟩
  exact ⟨by rw [cmpA_eq], Below.refl _ _⟩

/- ## Repeat -/
noncomputable def repB (l : List UInt8) (n : Nat) : List UInt8 := Nat.rec (motive := fun _ => List UInt8) [] (fun _ ih => l ++ ih) n
theorem repB_eq (l : List UInt8) : ∀ n, repB l n = Lib.repeatL l n
  | 0 => rfl
  | n + 1 => by show l ++ repB l n = _; rw [repB_eq l n]; rfl
noncomputable def repV (args : List Value) : Option Value := match args with
  | [.string s, .int .i64 (.ofNat n)] => cond (Nat.ble n 1000000 && Nat.ble s.size 1000000) (some (.string ⟨(repB s.data.toList n).toArray⟩)) none
  | _ => none
theorem repF_ok (L : Lays.n105 P ρ) (X : Builder.Extra P ρ) (hen : Enter P (ρ.f 105)) (cl : Caller) : CallOkAt P ng (ρ.f 105) (pureF repV cl) := by
  refine pureF_ok hen ?_ cl
  intro args r hr
  unfold repV at hr
  split at hr <;> try (simp at hr; done)
  rename_i s n
  cases hc : (Nat.ble n 1000000 && Nat.ble s.size 1000000) with
  | false => rw [hc] at hr; simp at hr
  | true =>
    rw [hc] at hr
    simp only [cond_true, Option.some.injEq] at hr
    subst hr
    simp only [Bool.and_eq_true] at hc
    have h1 := Nat.le_of_ble_eq_true hc.1
    have h2 := Nat.le_of_ble_eq_true hc.2
    have h3 : s.size * n ≤ 1000000 * 1000000 := Nat.mul_le_mul h2 h1
    refine ⟨rfl, rfl, fun w => (Any.strings_Repeat L X s n w (by omega) (by omega)).mono ?_⟩
    rintro e w' ⟨rfl, hb⟩
    exact ⟨by rw [repB_eq], hb⟩

/- ## copyCheck -/
noncomputable def ccF (tb : Nat) (_ : Caller) (args : List Value) (h : Heap) : Option (Out × Heap) := match args with
  | [.pointer (some ⟨b, off, none⟩)] => cond (Nat.beq off 0) (match h.get b with
    | some (.cells xs n (.bld t)) => cond (Nat.beq t tb && Nat.beq n 2) (match xs.get 0 with
      | some (.pointer none) => some (.ret (.tuple #[]), ⟨h.t.set b (.cells (storeL xs 0 [.pointer (some ⟨b, 0, none⟩)]) n (.bld t)), h.nx⟩)
      | some (.pointer (some ⟨b', o', none⟩)) => cond (Nat.beq b' b && Nat.beq o' 0) (some (.ret (.tuple #[]), h)) none
      | _ => none) none
    | _ => none) none
  | _ => none
theorem set_eq {w : World} {cb : Nat} {c : Array Value} {el : TypeId} {fr : Nat × Nat} (h : w.heap[cb]? = some (.cells c el fr)) (v : Value) :
    w.setCell ⟨cb, 0, none⟩ v = { w with heap := w.heap.setIfInBounds cb (.cells (overA c 0 [v]) el fr) } := by
  unfold World.setCell
  congr 1
  apply Array.ext_getElem?
  intro k
  rw [Array.getElem?_modify, Array.getElem?_setIfInBounds]
  by_cases e : cb = k
  · subst e
    have hlt : cb < w.heap.size := by
      rcases Nat.lt_or_ge cb w.heap.size with h' | h'
      · exact h'
      · rw [Array.getElem?_eq_none h'] at h; cases h
    simp only [if_true, hlt, h, Option.map_some, Option.isSome_none, Bool.false_eq_true, if_false]
    rfl
  · rw [if_neg e, if_neg e]
theorem ccF_ok (L : Lays.n240 P ρ) (X : Builder.X72 P ρ) (hen : Enter P (ρ.f 240)) (cl : Caller) : CallOkAt P ng (ρ.f 240) (ccF (ρ.t 72) cl) := by
  intro args h o h' hr hwf
  unfold ccF at hr
  split at hr <;> try (simp at hr; done)
  rename_i b off
  cases ho : Nat.beq off 0 with
  | false => rw [ho] at hr; simp at hr
  | true =>
  rw [ho] at hr
  obtain rfl := Nat.eq_of_beq_eq_true ho
  simp only [cond_true] at hr
  split at hr <;> try (simp at hr; done)
  rename_i xs n t hg
  cases ht : (Nat.beq t (ρ.t 72) && Nat.beq n 2) with
  | false => rw [ht] at hr; simp at hr
  | true =>
  rw [ht] at hr
  simp only [Bool.and_eq_true] at ht
  obtain rfl := Nat.eq_of_beq_eq_true ht.1
  obtain rfl := Nat.eq_of_beq_eq_true ht.2
  simp only [cond_true] at hr
  have key : ∀ (N : Nat) (F : Nat → Option Blk) (m : Mp) (w : World) (args' : List Value), h.nx ≤ N → HRel m (mix h N F) w → VRels m [.pointer (some ⟨b, 0, none⟩)] args' →
      ∃ l c v v', m b = .live l ∧ AtCells m w xs 2 (.bld (ρ.t 72)) l c (ρ.t 72) (0, 0) ∧ l.rw = true ∧ l.sh = 0 ∧ c.size = 2 ∧ args' = [.pointer (some ⟨l.cb, 0, none⟩)] ∧ xs.get 0 = some v ∧ w.cell? ⟨l.cb, 0, none⟩ = some v' ∧ VRel m v v' ∧
        w.shape? l.cb = some (ρ.t 72, 2) ∧ w.frozen? ⟨l.cb, 0, none⟩ = false := by
    intro N F m w args' hN hh ha
    obtain ⟨l, hm, c, el, fr, hc⟩ := hh.cells hwf hN hg
    obtain ⟨k1, k2, k3, k4, k5⟩ : l.rw = true ∧ l.sh = 0 ∧ l.csz = 2 ∧ fr = (0, 0) ∧ el = ρ.t 72 := hc.kind
    subst k4; subst k5
    obtain ⟨v, v', g1, g2, _, g4⟩ := hc.cell 0 (by omega)
    rw [k2] at g2
    have hcs : c.size = 2 := by rw [hc.csz, k3]
    have hheap := hc.heap
    cases ha with
    | cons _ a' _ r' ha hr' =>
    cases hr'
    have := ptr_live ha hm
    rw [k2] at this
    exact ⟨l, c, v, v', hm, hc, k1, k2, hcs, by rw [this], g1, by rw [cell_at hheap]; exact g2, g4, by simp [World.shape?, hheap, hcs], by rw [frozen_at hheap]; simp⟩
  split at hr <;> try (simp at hr; done)
  · rename_i hx0
    simp only [Option.some.injEq, Prod.mk.injEq] at hr
    obtain ⟨rfl, rfl⟩ := hr
    refine ⟨hen, ?_, Nat.le_refl _, fun N F m w args' hN hh hgl ha => ?_⟩
    · intro b' hb'
      have hne : b' ≠ b := by
        intro e; subst e
        have := hwf b' hb'
        rw [this] at hg; cases hg
      show (h.t.set b _).get b' = none
      rw [Trie.get_set_ne _ _ hne]
      exact hwf b' hb'
    · obtain ⟨l, c, v, v', hm, hc, k1, k2, hcs, rfl, g1, g2, g4, g5, g6⟩ := key N F m w args' hN hh ha
      rw [hx0] at g1
      simp only [Option.some.injEq] at g1
      subst g1
      cases g4
      refine (Any.Builder_copyCheck_fresh L X l.cb w g2 g5 g6).mono ?_
      rintro e w' ⟨rfl, rfl⟩
      have hN' : h.nx ≤ N := hN
      have hbr := wr_cells hc (off := 0) (vs := [.pointer (some ⟨b, 0, none⟩)]) (vs' := [.pointer (some ⟨l.cb, l.sh + 0, none⟩)]) (by simp) (.cons _ _ _ _ (.ptr b 0 l hm) .nil) rfl
      obtain ⟨r1, r2⟩ := wr_rel (v := .tuple #[]) hh (lt_of_get hwf hN' hg) hm k1 hbr
      rw [k2] at r1 r2
      rw [set_eq hc.heap]
      exact ⟨m, ⟨_, rfl, .undef⟩, r1, r2⟩
  · rename_i b' o' hx0
    cases hq : (Nat.beq b' b && Nat.beq o' 0) with
    | false => rw [hq] at hr; simp at hr
    | true =>
    rw [hq] at hr
    simp only [Bool.and_eq_true] at hq
    obtain rfl := Nat.eq_of_beq_eq_true hq.1
    obtain rfl := Nat.eq_of_beq_eq_true hq.2
    simp only [cond_true, Option.some.injEq, Prod.mk.injEq] at hr
    obtain ⟨rfl, rfl⟩ := hr
    refine ⟨hen, hwf, Nat.le_refl _, fun N F m w args' hN hh hgl ha => ?_⟩
    obtain ⟨l, c, v, v', hm, hc, k1, k2, hcs, rfl, g1, g2, g4, g5, g6⟩ := key N F m w args' hN hh ha
    rw [hx0] at g1
    simp only [Option.some.injEq] at g1
    subst g1
    have := ptr_live g4 hm
    subst this
    rw [k2] at g2
    refine (Any.Builder_copyCheck_used L X l.cb w g2).mono ?_
    rintro e w' ⟨rfl, rfl⟩
    exact ⟨m, ⟨_, rfl, .undef⟩, hh, .refl m w'⟩
end Go.AM
end
section
/- A special for a Builder's String: its bytes' row is given up. -/
namespace Go.AM
open Go.Proofs Go.Shelf Go.RowKit
variable {P : Program} {ρ : Ren} {ng : Nat}

set_option maxHeartbeats 2000000 in
set_option maxRecDepth 100000 in

theorem string_calls (L : Lays.n169 P ρ) (X : Builder.Extra P ρ) (b g cap : Nat) (l : List UInt8) (w : World) (h0 : l ≠ []) (hcap : cap ≠ 0) (c1 : w.cell? ⟨b, 1, none⟩ = some (.slice (some ⟨g, 0, none⟩) l.length cap))
    {cells : Nat} (hsh : w.shape? g = some (ρ.t 5, cells)) (hle : l.length ≤ cells) (hmax : l.length ≤ 1000000) (hcell : ∀ j x, l[j]? = some x → w.cell? ⟨g, j, none⟩ = some (.int .u8 x.toNat)) :
    Calls P (ρ.f 169) #[.pointer (some ⟨b, 0, none⟩)] w fun e w' => e = .returned (.string ⟨l.toArray⟩) ∧ w' = w.drew.freeze ⟨g, 0, none⟩ l.length := by
  have c1 : w.drew.cell? ⟨b, 1, none⟩ = some (.slice (some ⟨g, 0, none⟩) l.length cap) := c1
  have hSD : (Builtin.unsafeSliceData_ #[(ρ.t 37)] (ρ.t 127) #[.slice (some ⟨g, 0, none⟩) l.length cap]).run P w.drew = .ok (.pointer (some ⟨g, 0, none⟩)) w.drew :=
    Lib.run_unsafeSliceData_row _ _ _ _ _ _ hcap
  have hUS : (Builtin.unsafeString_ #[(ρ.t 127), (ρ.t 3)] (ρ.t 9) #[.pointer (some ⟨g, 0, none⟩), .int .i64 l.length]).run P w.drew = .ok (.string ⟨l.toArray⟩) (w.drew.freeze ⟨g, 0, none⟩ l.length) := by
    refine Lib.run_unsafeString_row w.drew (ρ.t 127) (ρ.t 3) (ρ.t 9) (ρ.t 5) L.t127 X.cellsByte g cells hsh l h0 hle (by omega) ?_
    intro j x hx
    rw [add_at, Nat.zero_add]
    exact hcell j x hx
  have mixed := L.mixed
  have t72 := L.t72; have a72 := L.a72; have z72 := L.z72; have v72 := L.v72; have u72 := run_underlying L.t72
  have t70 := L.t70; have a70 := L.a70; have z70 := L.z70; have v70 := L.v70; have u70 := run_underlying L.t70
  have t37 := L.t37; have a37 := L.a37; have z37 := L.z37; have v37 := L.v37; have u37 := run_underlying L.t37
  have t127 := L.t127; have a127 := L.a127; have z127 := L.z127; have v127 := L.v127; have u127 := run_underlying L.t127
  have t3 := L.t3; have a3 := L.a3; have z3 := L.z3; have v3 := L.v3; have u3 := run_underlying L.t3
  have t9 := L.t9; have a9 := L.a9; have z9 := L.z9; have v9 := L.v9; have u9 := run_underlying L.t9
  have t5 := X.t5; have a5 := X.a5; have z5 := X.z5; have v5 := X.v5; have u5 := run_underlying X.t5
  go_enter L.f169, Body.n169_ntmps ρ
  go_wp2
  go_region_o
  all_goals (go_wp2; go_ret; exact ⟨rfl, rfl⟩)

noncomputable def byV (v : Value) (r : Option (List UInt8)) : Option (List UInt8) := match v with
  | .int .u8 (.ofNat n) => cond (Nat.blt n 256) (r.map (UInt8.ofNat n :: ·)) none
  | _ => none
noncomputable def byL (l : List Value) : Option (List UInt8) := List.rec (motive := fun _ => Option (List UInt8)) (some []) (fun v _ ih => byV v ih) l
theorem byL_ok {m : Mp} : ∀ {l l' : List Value} {bs : List UInt8}, byL l = some bs → VRels m l l' → bs.length = l.length ∧ ∀ (j : Nat) (x : UInt8), bs[j]? = some x → l'[j]? = some (Value.int .u8 x.toNat) := by
  intro l
  induction l with
  | nil =>
    intro l' bs h _
    simp only [byL, Option.some.injEq] at h
    subst h
    exact ⟨rfl, fun j x hx => by simp at hx⟩
  | cons v r ih =>
    intro l' bs h hl
    have h2 : byV v (byL r) = some bs := h
    clear h
    cases hl with
    | cons _ v' _ r' hv hr =>
    unfold byV at h2
    split at h2 <;> try (simp at h2; done)
    rename_i n
    have h := h2
    cases hn : Nat.blt n 256 with
    | false => rw [hn] at h; simp at h
    | true =>
      rw [hn] at h
      simp only [cond_true] at h
      obtain ⟨bs', h1, rfl⟩ := Option.map_eq_some_iff.1 h
      obtain ⟨i1, i2⟩ := ih h1 hr
      have hn : n < 256 := by simpa [Nat.blt_eq] using hn
      cases hv
      refine ⟨by simp [i1], fun j x hx => ?_⟩
      cases j with
      | zero =>
        simp only [List.getElem?_cons_zero, Option.some.injEq] at hx ⊢
        subst hx
        have : (UInt8.ofNat n).toNat = n := by simp; omega
        rw [this]; rfl
      | succ j => simpa using i2 j x (by simpa using hx)

noncomputable def stF (tb te : Nat) (_ : Caller) (args : List Value) (h : Heap) : Option (Out × Heap) := match args with
  | [.pointer (some ⟨b, off, none⟩)] => cond (Nat.beq off 0) (match h.get b with
    | some (.cells xs n (.bld t)) => cond (Nat.beq t tb && Nat.beq n 2) (match xs.get 1 with
      | some (.slice (some ⟨g, o, none⟩) len cap) => cond (Nat.beq o 0 && Nat.ble 1 len && Nat.ble len cap && Nat.ble len 1000000) (match h.get g with
        | some (.cells ys mm (.own t')) => cond (Nat.beq t' te && Nat.ble len mm) (match byL (loadL ys 0 len) with
          | some bs => some (.ret (.string ⟨bs.toArray⟩), ⟨h.t.set g .dead, h.nx⟩)
          | none => none) none
        | _ => none) none
      | some (.slice none 0 0) => some (.ret (.string ⟨#[]⟩), h)
      | _ => none) none
    | _ => none) none
  | _ => none

theorem stF_ok (L : Lays.n169 P ρ) (X : Builder.Extra P ρ) (hen : Enter P (ρ.f 169)) (cl : Caller) : CallOkAt P ng (ρ.f 169) (stF (ρ.t 72) (ρ.t 5) cl) := by
  intro args h o h' hr hwf
  unfold stF at hr
  split at hr <;> try (simp at hr; done)
  rename_i b off
  cases ho : Nat.beq off 0 with
  | false => rw [ho] at hr; simp at hr
  | true =>
  rw [ho] at hr
  obtain rfl := Nat.eq_of_beq_eq_true ho
  simp only [cond_true] at hr
  split at hr <;> try (simp at hr; done)
  rename_i xs n t hg
  cases ht : (Nat.beq t (ρ.t 72) && Nat.beq n 2) with
  | false => rw [ht] at hr; simp at hr
  | true =>
  rw [ht] at hr
  simp only [Bool.and_eq_true] at ht
  obtain rfl := Nat.eq_of_beq_eq_true ht.1
  obtain rfl := Nat.eq_of_beq_eq_true ht.2
  simp only [cond_true] at hr
  have key : ∀ (N : Nat) (F : Nat → Option Blk) (m : Mp) (w : World) (args' : List Value), h.nx ≤ N → HRel m (mix h N F) w → VRels m [.pointer (some ⟨b, 0, none⟩)] args' →
      ∃ l p v v', m b = .live l ∧ args' = [.pointer (some ⟨l.cb, 0, none⟩)] ∧ xs.get 1 = some v ∧ w.heap[l.cb]? = some (.cells #[p, v'] (ρ.t 72) (0, 0)) ∧ VRel m v v' := by
    intro N F m w args' hN hh ha
    obtain ⟨l, hm, c, el, fr, hc⟩ := hh.cells hwf hN hg
    obtain ⟨k1, k2, k3, k4, k5⟩ : l.rw = true ∧ l.sh = 0 ∧ l.csz = 2 ∧ fr = (0, 0) ∧ el = ρ.t 72 := hc.kind
    subst k4; subst k5
    obtain ⟨v0, v0', _, f2, _, _⟩ := hc.cell 0 (by omega)
    obtain ⟨v, v', g1, g2, _, g4⟩ := hc.cell 1 (by omega)
    rw [k2] at g2 f2
    have hcs : c.size = 2 := by rw [hc.csz, k3]
    have hheap := hc.heap
    cases ha with
    | cons _ a' _ r' ha hr' =>
    cases hr'
    have := ptr_live ha hm
    rw [k2] at this
    refine ⟨l, v0', v, v', hm, by rw [this], g1, ?_, g4⟩
    rw [hheap]
    congr 2
    apply Array.ext_getElem?
    intro i
    match i with
    | 0 => rw [f2]; rfl
    | 1 => rw [g2]; rfl
    | i + 2 => rw [Array.getElem?_eq_none (by omega), Array.getElem?_eq_none (by simp)]
  split at hr <;> try (simp at hr; done)
  · rename_i g o len cap hx1
    cases hq : (Nat.beq o 0 && Nat.ble 1 len && Nat.ble len cap && Nat.ble len 1000000) with
    | false => rw [hq] at hr; simp at hr
    | true =>
    rw [hq] at hr
    simp only [Bool.and_eq_true] at hq
    obtain ⟨⟨⟨q1, q2⟩, q3⟩, q4⟩ := hq
    obtain rfl := Nat.eq_of_beq_eq_true q1
    have q2 := Nat.le_of_ble_eq_true q2
    have q3 := Nat.le_of_ble_eq_true q3
    have q4 := Nat.le_of_ble_eq_true q4
    simp only [cond_true] at hr
    split at hr <;> try (simp at hr; done)
    rename_i ys mm t' hgg
    cases ht : (Nat.beq t' (ρ.t 5) && Nat.ble len mm) with
    | false => rw [ht] at hr; simp at hr
    | true =>
    rw [ht] at hr
    simp only [Bool.and_eq_true] at ht
    obtain rfl := Nat.eq_of_beq_eq_true ht.1
    have hlm := Nat.le_of_ble_eq_true ht.2
    simp only [cond_true] at hr
    split at hr <;> try (simp at hr; done)
    rename_i bs hbs
    simp only [Option.some.injEq, Prod.mk.injEq] at hr
    obtain ⟨rfl, rfl⟩ := hr
    refine ⟨hen, ?_, Nat.le_refl _, fun N F m w args' hN hh hgl ha => ?_⟩
    · intro b' hb'
      have hne : b' ≠ g := by
        intro e; subst e
        have := hwf b' hb'
        rw [this] at hgg; cases hgg
      show (h.t.set g _).get b' = none
      rw [Trie.get_set_ne _ _ hne]
      exact hwf b' hb'
    · have hN' : h.nx ≤ N := hN
      obtain ⟨l, p, v, v', hm, rfl, g1, g2, g4⟩ := key N F m w args' hN' hh ha
      rw [hx1] at g1
      simp only [Option.some.injEq] at g1
      subst g1
      obtain ⟨lg, hmg, c, el, fr, hc⟩ := hh.cells hwf hN' hgg
      obtain ⟨k1, k2, k3, k4, k5⟩ : lg.rw = true ∧ fr = (0, 0) ∧ lg.esz = 1 ∧ el = ρ.t 5 ∧ lg.sh = 0 := hc.kind
      subst k2; subst k4
      have hfit := hc.fit
      have hcsz := hc.csz
      have hrel := (cells_rel hc.cell (k := len) (off := 0) (by omega) (by omega)).1
      obtain ⟨b1, b2⟩ := byL_ok hbs hrel
      rw [length_loadL] at b1
      rcases slice_live g4 hmg with ⟨cap2, hx2, hsr⟩ | ⟨z1, z2, z3, a2, hx2⟩
      · subst hx2
        have hcc : cap ≤ cap2 := by rcases hsr with r | ⟨_, _, _, r⟩ <;> omega
        rw [k5] at g2 b2
        have hcall := string_calls L X l.cb lg.cb cap2 bs w (fun e => by rw [e] at b1; simp at b1; omega) (by omega)
          (by rw [b1]; simp [World.cell?, g2]) (cells := c.size) (by simp [World.shape?, hc.heap]) (by omega) (by omega) (by
            intro j x hx
            rw [cell_at hc.heap]
            have := b2 j x hx
            rw [List.getElem?_take, List.getElem?_drop] at this
            split at this
            · simpa using this
            · cases this)
        refine hcall.mono ?_
        rintro e w' ⟨rfl, rfl⟩
        obtain ⟨r1, r2⟩ := hh.kill hmg k1
        have hheap : ∀ cb, cb ≠ lg.cb → (w.drew.freeze ⟨lg.cb, 0, none⟩ bs.length).heap[cb]? = w.heap[cb]? := by
          intro cb hcb
          unfold World.freeze
          split
          · rfl
          · show (w.heap.modify lg.cb _)[cb]? = _
            rw [Array.getElem?_modify, if_neg (Ne.symm hcb)]
        have hsz : (w.drew.freeze ⟨lg.cb, 0, none⟩ bs.length).heap.size = w.heap.size := by
          unfold World.freeze
          split
          · rfl
          · show (w.heap.modify lg.cb _).size = _
            rw [Array.size_modify]
        have hos : (w.drew.freeze ⟨lg.cb, 0, none⟩ bs.length).os = w.os ∧ (w.drew.freeze ⟨lg.cb, 0, none⟩ bs.length).output = w.output := by
          unfold World.freeze
          split <;> exact ⟨rfl, rfl⟩
        have hro : roB (mix h N F g) = false := roB_rw (hmg ▸ hh.blk g) k1
        have r3 := r1.other (w' := w.drew.freeze ⟨lg.cb, 0, none⟩ bs.length) (by
          intro b' l' hl'
          by_cases e : b' = g
          · simp only [if_pos e] at hl'; cases hl'
          · simp only [if_neg e] at hl'
            exact hheap _ fun e' => e (hh.inj g b' lg l' hmg hl' e'.symm hro).symm)
        refine ⟨_, ⟨_, rfl, .string _⟩, ?_, r2.ext, Nat.le_of_eq hsz.symm, hos.1, hos.2, ?_, r2.new, r2.old⟩
        · have := mix_set h N F .dead h.nx (lt_of_get hwf hN' hgg)
          rw [this]
          exact r3
        · intro cb _ hcb
          exact hheap cb fun e => hcb g lg hmg k1 e.symm
      · omega
  · rename_i hx1
    simp only [Option.some.injEq, Prod.mk.injEq] at hr
    obtain ⟨rfl, rfl⟩ := hr
    refine ⟨hen, hwf, Nat.le_refl _, fun N F m w args' hN hh hgl ha => ?_⟩
    obtain ⟨l, p, v, v', hm, rfl, g1, g2, g4⟩ := key N F m w args' hN hh ha
    rw [hx1] at g1
    simp only [Option.some.injEq] at g1
    subst g1
    cases g4
    refine (Any.Builder_String_nil L X w.heap.size l.cb p w g2).mono ?_
    rintro e w' ⟨rfl, hb⟩
    obtain ⟨q1, q2⟩ := hh.below hb
    exact ⟨m, ⟨_, rfl, .string _⟩, q1, q2⟩
end Go.AM
end
section
/- A function that defers one closure of its own (of two captured values) that does not recover, and returns: what it comes to, by the machine. -/
namespace Go.AM
variable {P : Program} {ng : Nat}

structure DefCode where
  (fn fnd : Func)
  (pre : List Code)
  (rest body : Code)
  (ta tb tf : Tmp)

noncomputable def preRun (P : Program) (cl : Caller) (fuel : Nat) (l : List Code) (e : Env) (h : Heap) : Res :=
  List.rec (motive := fun _ => Env → Heap → Res) (fun e h => some (.normal, e, h)) (fun c _ ih e h => match engine P cl fuel c e h with
    | some (.normal, e1, h1) => ih e1 h1
    | x => x) l e h
noncomputable def deferEnd (P : Program) (T : DefCode) (cl : Caller) (fuel : Nat) (e1 e3 : Env) (h3 : Heap) : Option (Out × Heap) :=
  match engine P cl fuel T.body (storeL .leaf 0 [e1.at T.ta, e1.at T.tb]) h3 with
  | some (.normal, _, h4) => match resultV P e3 h4 T.fn.results.toList with
    | some v => some (.ret v, h4)
    | none => none
  | _ => none
noncomputable def deferF (P : Program) (T : DefCode) (fuel : Nat) (cl : Caller) (args : List Value) (h : Heap) : Option (Out × Heap) :=
  match preRun P cl fuel T.pre (storeL .leaf 0 args) h with
  | some (.ret, e1, h1) => match resultV P e1 h1 T.fn.results.toList with
    | some v => some (.ret v, h1)
    | none => none
  | some (.normal, e1, h1) => match engine P cl fuel T.rest (Env.put e1 (some T.tf) topV) h1 with
    | some (.normal, e3, h3) => deferEnd P T cl fuel e1 e3 h3
    | some (.ret, e3, h3) => deferEnd P T cl fuel e1 e3 h3
    | _ => none
  | _ => none
def seqAll (l : List Code) (tail : Code) : Code := l.foldr Code.seq tail

theorem preRun_ok {nt : Nat} [Ds nt] (hm : P.follows .mixedOrders = true) {cl : Caller} (hcl : CallOk P ng cl) {fuel : Nat} : ∀ (l : List Code) (e e' : Env) (h h' : Heap) (ex : AExit), l.all (codeOk ng nt) = true →
    preRun P cl fuel l e h = some (ex, e', h') → HWf h → HWf h' ∧ h.nx ≤ h'.nx ∧ ∀ (tail : Code) (N : Nat) (F : Nat → Option Blk) (m : Mp) (w : World) (a : Act) (Q : Exit → Act → World → Prop), h'.nx ≤ N → HRel m (mix h N F) w → GlobOk ng m → ARel m e.at a nt →
    (∀ m' w' a' x, HRel m' (mix h' N F) w' → Step m w m' w' → ARel m' e'.at a' nt → XRel m' ex x → (ex = .normal → tail.wp P Q a' w') ∧ (ex ≠ .normal → Q x a' w')) → (seqAll l tail).wp P Q a w := by
  intro l
  induction l with
  | nil =>
    intro e e' h h' ex _ hr hwf
    have hr : some (AExit.normal, e, h) = some (ex, e', h') := hr
    simp only [Option.some.injEq, Prod.mk.injEq] at hr
    obtain ⟨rfl, rfl, rfl⟩ := hr
    refine ⟨hwf, Nat.le_refl _, fun tail N F m w a Q hN hh hg ha hQ => ?_⟩
    exact (hQ m w a .normal hh (.refl m w) ha rfl).1 rfl
  | cons c r ih =>
    intro e e' h h' ex hok hr hwf
    simp only [List.all_cons, Bool.and_eq_true] at hok
    have hr : (match engine P cl fuel c e h with
      | some (.normal, e1, h1) => preRun P cl fuel r e1 h1
      | x => x) = some (ex, e', h') := hr
    split at hr
    · rename_i e1 h1 hrun
      obtain ⟨w1, n1, k1⟩ := (engine_ok hm hcl fuel).1 _ _ _ _ _ _ hok.1 hrun hwf
      obtain ⟨w2, n2, k2⟩ := ih e1 e' h1 h' ex hok.2 hr w1
      refine ⟨w2, Nat.le_trans n1 n2, fun tail N F m w a Q hN hh hg ha hQ => wp_seq ?_⟩
      refine k1 N F m w a _ (Nat.le_trans n2 hN) hh hg ha ?_
      intro m1 x1 a1 x q1 q2 q3 q4
      have : x = .normal := q4
      subst this
      refine k2 tail N F m1 x1 a1 Q hN q1 (hg.mono q2.ext) q3 ?_
      intro m2 x2 a2 x p1 p2 p3 p4
      exact hQ m2 x2 a2 x p1 (q2.trans p2) p3 p4
    · rename_i hne
      obtain ⟨w1, n1, k1⟩ := (engine_ok hm hcl fuel).1 _ _ _ _ _ _ hok.1 hr hwf
      have hex : ex ≠ .normal := fun e => hne _ _ (e ▸ hr)
      refine ⟨w1, n1, fun tail N F m w a Q hN hh hg ha hQ => wp_seq ?_⟩
      refine k1 N F m w a _ hN hh hg ha ?_
      intro m1 x1 a1 x q1 q2 q3 q4
      exact then_of_not (q4.not_normal hex) ((hQ m1 x1 a1 x q1 q2 q3 q4).2 hex)

section
variable {T : DefCode} {f fd : FuncId} {i3 : Nat} {mk df : Oper} {at1 : Array TypeId} {cl : Caller} {fuel : Nat}

theorem deferF_ok (hm : P.follows .mixedOrders = true) (hcl : CallOk P ng cl) (hf : P.funcs[f]? = some T.fn) (hok : T.fn.name != "runtime.NumGoroutine")
    (hb : T.fn.body = some (seqAll T.pre (.seq (.region i3 #[mk, df] false) T.rest)))
    (hmk : mk.op = .makeFunc (.func fd) #[] #[.tmp T.ta, .tmp T.tb] ∧ mk.dst = some T.tf ∧ mk.guard = none) (hdf : df.op = .defer ⟨.value (.tmp T.tf), #[], at1⟩ ∧ df.dst = none ∧ df.guard = none)
    (hlt : T.tf < T.fn.ntmps) (hfd : P.funcs[fd]? = some T.fnd) (hokd : T.fnd.name != "runtime.NumGoroutine") (hbd : T.fnd.body = some T.body) (hresd : T.fnd.results = #[])
    (ok0 : T.pre.all (codeOk ng T.fn.ntmps) = true) (okr : codeOk ng T.fn.ntmps T.rest = true) (okb : codeOk ng T.fnd.ntmps T.body = true) :
    CallOkAt P ng f (deferF P T fuel cl) := by
  have enter : ∀ {f : FuncId} {fn : Func}, P.funcs[f]? = some fn → (fn.name != "runtime.NumGoroutine") = true → (∃ c, fn.body = some c) → Enter P f := by
    intro f fn h1 h2 ⟨c, h3⟩ args w
    simp only [bne_iff_ne, ne_eq] at h2
    simp [callFunc, h1, h2, h3]
  intro args h o h' hr hwf
  refine ⟨enter hf hok ⟨_, hb⟩, ?_⟩
  unfold deferF at hr
  -- the end: the closure, then the result
  have fin : ∀ (e1 e3 : Env) (h3 : Heap), deferEnd P T cl fuel e1 e3 h3 = some (o, h') → HWf h3 → HWf h' ∧ h3.nx ≤ h'.nx ∧
      ∀ (N : Nat) (F : Nat → Option Blk) (m : Mp) (w : World) (pa pb : Value) (a : Act) (D : Ds T.fn.ntmps) (R : Ending → World → Prop), h'.nx ≤ N → HRel m (mix h3 N F) w → GlobOk ng m → VRel m (e1.at T.ta) pa → VRel m (e1.at T.tb) pb →
        ARel m e3.at a T.fn.ntmps → (∀ m' w' e, ORel m' o e → HRel m' (mix h' N F) w' → Step m w m' w' → R e w') →
        Leaves P T.fn a.tmps R [{ target := .fn (.func fd) #[pa, pb], args := #[] }] .returning w := by
    intro e1 e3 h3 hr hwf3
    unfold deferEnd at hr
    split at hr <;> try (simp at hr; done)
    rename_i e4 h4 hrun
    split at hr <;> try (simp at hr; done)
    rename_i v hv
    simp only [Option.some.injEq, Prod.mk.injEq] at hr
    obtain ⟨rfl, rfl⟩ := hr
    letI i2 : Ds T.fnd.ntmps := ⟨[]⟩
    obtain ⟨a1, a2, a3⟩ := (engine_ok hm hcl fuel).1 _ _ _ _ _ _ okb hrun hwf3
    refine ⟨a1, a2, fun N F m w pa pb a D R hN hh hg hpa hpb ha hR => ?_⟩
    refine ⟨by simp, .func fd, #[pa, pb], fd, #[pa, pb], rfl, ?_, ?_⟩
    · show (callFunc fd (#[] ++ #[pa, pb])).run P w = _
      rw [enter hfd hokd ⟨_, hbd⟩]
      rfl
    · refine (callsD_of_wp (R := fun e w' => (∃ v, e = .returned v) ∧ ∃ m', HRel m' (mix h4 N F) w' ∧ Step m w m' w') hfd hbd ?_).mono ?_
      · refine a3 N F m w _ _ hN hh hg (args_rel (args := [e1.at T.ta, e1.at T.tb]) (args' := [pa, pb]) (.cons _ _ _ _ hpa (.cons _ _ _ _ hpb .nil)) T.fnd.ntmps) ?_
        intro m' w' a' x q1 q2 q3 q4
        have : x = .normal := q4
        subst this
        refine ⟨q3.def_, .tuple #[], ?_, ⟨_, rfl⟩, m', q1, q2⟩
        rw [results_eq, hresd]; simp
      · rintro e u' w' ⟨rfl, ⟨v2, rfl⟩, m', q1, q2⟩
        show Leaves P T.fn a.tmps R [] (settle .returning) w'
        obtain ⟨v', r1, r2⟩ := resultV_ok q1 a1 hN (ha.mono q2.ext) hv
        exact ⟨v', r1, hR m' w' _ ⟨v', rfl, r2⟩ q1 q2⟩
  split at hr <;> try (simp at hr; done)
  · -- the early end
    rename_i e1 h1 hrg
    split at hr <;> try (simp at hr; done)
    rename_i v hv
    simp only [Option.some.injEq, Prod.mk.injEq] at hr
    obtain ⟨rfl, rfl⟩ := hr
    letI i1 : Ds T.fn.ntmps := ⟨[]⟩
    obtain ⟨w1, n1, k1⟩ := preRun_ok hm hcl T.pre _ _ _ _ _ ok0 hrg hwf
    refine ⟨w1, n1, fun N F m w args' hN hh hg ha => calls_of_wp_defers hf hb ?_⟩
    refine k1 _ N F m w _ _ hN hh hg (args_rel ha _) ?_
    intro m2 x2 a2 x p1 p2 p3 p4
    refine ⟨(fun e => nomatch e), fun _ => ?_⟩
    have : x = .ret := p4
    subst this
    show Leaves P T.fn a2.tmps _ a2.defers .returning x2
    rw [p3.def_]
    obtain ⟨v', r1, r2⟩ := resultV_ok p1 w1 hN p3 hv
    exact ⟨v', r1, m2, ⟨v', rfl, r2⟩, p1, p2⟩
  · rename_i e1 h1 hrg
    -- what stands behind
    have main : ∀ (ex : AExit) (e3 : Env) (h3 : Heap), engine P cl fuel T.rest (Env.put e1 (some T.tf) topV) h1 = some (ex, e3, h3) → (ex = .normal ∨ ex = .ret) → deferEnd P T cl fuel e1 e3 h3 = some (o, h') →
        HWf h' ∧ h.nx ≤ h'.nx ∧ ∀ (N : Nat) (F : Nat → Option Blk) (m : Mp) (w : World) (args' : List Value), h'.nx ≤ N → HRel m (mix h N F) w → GlobOk ng m → VRels m args args' →
          Calls P f args'.toArray w fun e w' => ∃ m', ORel m' o e ∧ HRel m' (mix h' N F) w' ∧ Step m w m' w' := by
      intro ex e3 h3 hrun hex hend
      have pre0 := fun (D : Ds T.fn.ntmps) => preRun_ok (nt := T.fn.ntmps) hm hcl T.pre _ _ _ _ _ ok0 hrg hwf
      have rest0 := fun (D : Ds T.fn.ntmps) (hw : HWf h1) => (engine_ok (nt := T.fn.ntmps) hm hcl fuel).1 _ _ _ _ _ _ okr hrun hw
      obtain ⟨w1, n1, k1⟩ := pre0 ⟨[]⟩
      have w3 : HWf h3 ∧ h1.nx ≤ h3.nx := ⟨(rest0 ⟨[]⟩ w1).1, (rest0 ⟨[]⟩ w1).2.1⟩
      obtain ⟨w4, n4, hfin⟩ := fin e1 e3 h3 hend w3.1
      refine ⟨w4, by omega, fun N F m w args' hN hh hg ha => calls_of_wp_defers hf hb ?_⟩
      refine k1 _ N F m w _ _ (by omega) hh hg (args_rel (D := ⟨[]⟩) ha _) ?_
      intro m2 x2 a2 x p1 p2 p3 p4
      refine ⟨fun _ => ?_, fun hne => absurd rfl hne⟩
      have p3t : ∀ t, VRel m2 (e1.at t) (a2.tmps.getD t undef) := @ARel.tm _ _ _ _ ⟨[]⟩ p3
      have p3s : T.fn.ntmps ≤ a2.tmps.size := @ARel.size _ _ _ _ ⟨[]⟩ p3
      have p3d : a2.defers = [] := @ARel.def_ _ _ _ _ ⟨[]⟩ p3
      have p3p : ∀ t, VRel m2 (putF e1.at (some T.tf) topV t) ((a2.put (some T.tf) (.func (.func fd) #[] #[a2.tmps.getD T.ta undef, a2.tmps.getD T.tb undef])).tmps.getD t undef) := by
        letI i1 : Ds T.fn.ntmps := ⟨[]⟩
        exact (p3.put (v := topV) (.top _) (d := some T.tf) (by intro t ht; cases ht; exact hlt)).tm
      -- the closure is made and deferred
      refine wp_seq (wp_region ?_)
      show wpOps P #[mk, df] _ [0, 1] a2 x2
      generalize hpa : a2.tmps.getD T.ta undef = pa
      generalize hpb : a2.tmps.getD T.tb undef = pb
      have hva : VRel m2 (e1.at T.ta) pa := by rw [← hpa]; exact p3t T.ta
      have hvb : VRel m2 (e1.at T.tb) pb := by rw [← hpb]; exact p3t T.tb
      refine wpOps_step (o := mk) rfl (wanted_noneT hmk.2.2 _) ?_
      have e1a : a2.eval (.tmp T.ta) = pa := hpa
      have e1b : a2.eval (.tmp T.tb) = pb := hpb
      refine op_value (w' := x2) (v := .func (.func fd) #[] #[pa, pb]) ?_ ?_
      · simp [execOp, hmk.1, Instr.makeFunc, e1a, e1b]
      refine wpOps_step (o := df) rfl (wanted_noneT hdf.2.2 _) ?_
      have hev : (a2.put mk.dst (.func (.func fd) #[] #[pa, pb])).eval (.tmp T.tf) = .func (.func fd) #[] #[pa, pb] := by
        rw [hmk.2.1]
        exact put_eq (Nat.lt_of_lt_of_le hlt p3s)
      unfold Oper.wp
      have hexd : (execOp (a2.put mk.dst (.func (.func fd) #[] #[pa, pb])).eval df).run P x2 = .ok (.defer { target := .fn (.func fd) #[pa, pb], args := #[] }) x2 := by
        simp [execOp, hdf.1, resolve, hev, Deferred.ofValue]
      rw [hexd]
      rw [Oper.upon_defer]
      rw [hdf.2.1, put_def, p3d]
      generalize hds : ({ target := .fn (.func fd) #[pa, pb], args := #[] } : Deferred) = d
      have hA3 : @ARel m2 (Env.at (Env.put e1 (some T.tf) topV)) (Act.put { (a2.put mk.dst (.func (.func fd) #[] #[pa, pb])) with defers := [d] } none undef) T.fn.ntmps ⟨[d]⟩ := by
        refine @ARel.mk _ _ _ _ ⟨[d]⟩ (fun t => ?_) ?_ rfl
        · show VRel m2 _ ((a2.put mk.dst (.func (.func fd) #[] #[pa, pb])).tmps.getD t undef)
          rw [hmk.2.1, Env.put_at]
          have := p3p t
          rw [hpa, hpb] at this
          exact this
        · show T.fn.ntmps ≤ (a2.put mk.dst (.func (.func fd) #[] #[pa, pb])).tmps.size
          rw [put_size]; exact p3s
      obtain ⟨_, _, k3⟩ := rest0 ⟨[d]⟩ w1
      refine k3 N F m2 x2 _ _ (by omega) p1 (hg.mono p2.ext) hA3 ?_
      intro m3 x3 a3 x q1 q2 q3 q4
      have hx : x = .normal ∨ x = .ret := by
        rcases hex with rfl | rfl
        · exact .inl q4
        · exact .inr q4
      letI i2 : Ds T.fn.ntmps := ⟨[d]⟩
      have hd3 : a3.defers = [d] := q3.def_
      have key : Leaves P T.fn a3.tmps (fun e w' => ∃ m', ORel m' o e ∧ HRel m' (mix h' N F) w' ∧ Step m w m' w') a3.defers .returning x3 := by
        rw [hd3, ← hds]
        refine hfin N F m3 x3 pa pb a3 ⟨[d]⟩ _ hN q1 (hg.mono (p2.trans q2).ext) (hva.mono q2.ext) (hvb.mono q2.ext) q3 ?_
        intro m4 x4 e u1 u2 u3
        exact ⟨m4, u1, u2, (p2.trans q2).trans u3⟩
      rcases hx with rfl | rfl
      · exact key
      · exact key
    split at hr <;> try (simp at hr; done)
    · rename_i e3 h3 hrun
      exact main _ e3 h3 hrun (.inl rfl) hr
    · rename_i e3 h3 hrun
      exact main _ e3 h3 hrun (.inr rfl) hr
end
end Go.AM
end
section
/- A function that ranges over iterators which give nothing: what it comes to, by the machine. Condition: it runs in the machine. -/
namespace Go.AM
open Go.RowKit
variable {P : Program} {ng nt : Nat}
def hasRng : Code → Bool
  | .rangeFunc .. => true
  | .block _ b => hasRng b
  | .seq a b => hasRng a || hasRng b
  | _ => false
noncomputable def rngIt (cl : Caller) (v : Value) (e : Env) (h : Heap) : Res := match v with
  | .func (.func gf) first lb => match first.toList with
    | [] => match cl gf (.chan none :: lb.toList) h with
      | some (.ret _, h') => some (.normal, e, h')
      | _ => none
    | _ => none
  | _ => none
noncomputable def rngC (P : Program) (cl : Caller) (fuel : Nat) : Code → Env → Heap → Res
  | .seq a b => fun e h => match rngC P cl fuel a e h with
    | some (.normal, e1, h1) => rngC P cl fuel b e1 h1
    | x => x
  | .rangeFunc g _ _ _ => fun e h => rngIt cl (e.eval g) e h
  | .block id b => fun e h => match hasRng b with
    | true => match rngC P cl fuel b e h with
      | some (.normal, e1, h1) => some (.normal, e1, h1)
      | _ => none
    | false => engine P cl fuel (.block id b) e h
  | c => engine P cl fuel c
def okC (ng nt : Nat) : Code → Bool
  | .seq a b => okC ng nt a && okC ng nt b
  | .rangeFunc g _ _ _ => operOk ng g
  | .block id b => match hasRng b with
    | true => okC ng nt b
    | false => codeOk ng nt (.block id b)
  | c => codeOk ng nt c
noncomputable def rngF (P : Program) (fn : Func) (c : Code) (fuel : Nat) (cl : Caller) (args : List Value) (h : Heap) : Option (Out × Heap) :=
  match rngC P cl fuel c (storeL .leaf 0 args) h with
  | some (.ret, e, h1) => match resultV P e h1 fn.results.toList with
    | some v => some (.ret v, h1)
    | none => none
  | some (.normal, e, h1) => match resultV P e h1 fn.results.toList with
    | some v => some (.ret v, h1)
    | none => none
  | _ => none
def mkD (l : List Nat) : List Deferred := l.map fun D => { target := .collected D, args := #[] }
structure Marks (m : Mp) (w : World) (lo : Nat) (l : List Nat) : Prop where
  nd : l.Nodup
  at_ : ∀ D ∈ l, w.heap[D]? = some (.deferred (some []))
  ne : ∀ D ∈ l, ∀ b loc, m b = .live loc → loc.cb ≠ D
  lo : ∀ D ∈ l, lo ≤ D
theorem step_ne {m m' : Mp} {w w' : World} (st : Step m w m' w') {D : Nat} (hD : D < w.heap.size) (hne : ∀ b loc, m b = .live loc → loc.cb ≠ D) : ∀ b loc, m' b = .live loc → loc.cb ≠ D := by
  intro b loc hb
  cases hrw : loc.rw with
  | true =>
    rcases st.new b loc hb hrw with h | ⟨b0, l0, h1, _, h3⟩
    · omega
    · rw [← h3]; exact hne b0 l0 h1
  | false => exact hne b loc (st.old b loc hb hrw)
theorem Marks.step {m m' : Mp} {w w' : World} {lo : Nat} {l : List Nat} (k : Marks m w lo l) (st : Step m w m' w') : Marks m' w' lo l := by
  have lt : ∀ D ∈ l, D < w.heap.size := fun D hD => (Array.getElem?_eq_some_iff.1 (k.at_ D hD)).1
  exact ⟨k.nd, fun D hD => (st.keep D (lt D hD) fun b loc hb _ => k.ne D hD b loc hb).trans (k.at_ D hD), fun D hD => step_ne st (lt D hD) (k.ne D hD), k.lo⟩
theorem Step.putNew {m m' : Mp} {w w' : World} (st : Step m w m' w') {D : Nat} (h1 : w.heap.size ≤ D) (o : Obj) : Step m w m' (w'.putObj D o) := by
  have hs : (w'.putObj D o).heap.size = w'.heap.size := by simp [World.putObj]
  exact ⟨st.ext, by rw [hs]; exact st.size, st.os, st.out, fun cb hcb hne => (World.putObj_heap_other (by omega)).trans (st.keep cb hcb hne), st.new, st.old⟩
def RngP (P : Program) (ng nt : Nat) (c : Code) (ex : AExit) (e e1 : Env) (h h1 : Heap) : Prop :=
    HWf h1 ∧ h.nx ≤ h1.nx ∧ ∀ (N : Nat) (F : Nat → Option Blk) (m : Mp) (w : World) (a : Act) (lo : Nat) (l : List Nat) (Q : Exit → Act → World → Prop), h1.nx ≤ N → HRel m (mix h N F) w → GlobOk ng m → @ARel m e.at a nt ⟨mkD l⟩ → Marks m w lo l → lo ≤ w.heap.size →
      (∀ m' w' a' x l', HRel m' (mix h1 N F) w' → Step m w m' w' → @ARel m' e1.at a' nt ⟨mkD l'⟩ → XRel m' ex x → Marks m' w' lo l' → Q x a' w') → c.wp P Q a w
theorem rngIt_ok {cl : Caller} (hcl : CallOk P ng cl) {g : Operand} {ps : Array Tmp} {as1 body : Code} {e e1 : Env} {h h1 : Heap} {ex : AExit} (hok : operOk ng g = true) (hr : rngIt cl (e.eval g) e h = some (ex, e1, h1)) (hwf : HWf h) :
    RngP P ng nt (.rangeFunc g ps as1 body) ex e e1 h h1 := by
    unfold rngIt at hr
    split at hr <;> try (cases hr; done)
    rename_i gf first lb hg
    split at hr <;> try (cases hr; done)
    rename_i hfirst
    split at hr <;> try (cases hr; done)
    rename_i v h2 hq
    simp only [Option.some.injEq, Prod.mk.injEq] at hr
    obtain ⟨rfl, rfl, rfl⟩ := hr
    obtain ⟨hen, w1, n1, hcall⟩ := hcl _ _ _ _ _ hq hwf
    refine ⟨w1, n1, fun N F m w a lo l Q hN hh hgl ha hk hlo hQ => ?_⟩
    have hv : VRel m (e.eval g) (a.eval g) := by
      have := @ARel.eval _ _ _ ⟨mkD l⟩ _ _ ha hgl g hok
      cases g <;> exact this
    rw [hg] at hv
    obtain ⟨b', hae, hb'⟩ : ∃ b', a.eval g = .func (.func gf) #[] b' ∧ VRels m lb.toList b'.toList := by
      generalize a.eval g = z at hv
      cases hv with
      | func f x y x' y' hx hy =>
        rw [hfirst] at hx
        have : x'.toList = [] := by
          generalize x'.toList = y at hx
          cases hx; rfl
        have : x' = #[] := by
          apply Array.toList_inj.1
          rw [this]
        subst this
        exact ⟨y', rfl, hy⟩
    refine wpIn_wide.1 (wpIn_rangeFunc (F := Fence.wide) (n := 3) fun fn _ => ?_)
    obtain ⟨rec, hrec⟩ : ∃ rec : Loop, rec = { state := .ready, pending := none, fn, tmps := a.tmps, params := ps, assign := as1, body, defers := w.heap.size } := ⟨_, rfl⟩
    obtain ⟨W1, hW1⟩ : ∃ W1, (w.alloc (.deferred (some []))).alloc (.loop rec) = W1 := ⟨_, rfl⟩
    have hL1 : W1.heap[w.heap.size + 1]? = some (.loop rec) := by
      rw [← hW1]; have := World.alloc_heap_new (w.alloc (.deferred (some []))) (.loop rec); rwa [World.size_alloc] at this
    have hK1 : W1.heap[w.heap.size]? = some (.deferred (some [])) := by
      rw [← hW1]; exact (Below.heap_alloc _ _ _ (by simp)).trans (World.alloc_heap_new w _)
    have hb1 : Below w.heap.size w W1 := by
      rw [← hW1]; exact ((Below.refl _ w).alloc (Nat.le_refl _) _).alloc (by simp) _
    obtain ⟨hh1, st1⟩ := hh.below hb1
    refine ⟨w.heap.size + 1, [{ target := .collected w.heap.size, args := #[] }], W1, { target := .fn (.func gf) b', args := #[.func (.yield (w.heap.size + 1)) #[] #[]] }, W1, gf,
      #[.func (.yield (w.heap.size + 1)) #[] #[]] ++ b', W1, ?_, ?_, ?_, ?_, fun _ => by decide, ?_⟩
    · rw [← hW1, hrec]; exact run_enterLoop_outer _ _ _ _ _
    · simp only [resolve, hae]
      simp [go_sem]
    · intro f' _; trivial
    · have := hen (#[.func (.yield (w.heap.size + 1)) #[] #[]] ++ b') W1
      simp [invoke, go_sem, this]
    · refine callsIn_wide.2 ?_
      have key := hcall N F m W1 (.func (.yield (w.heap.size + 1)) #[] #[] :: b'.toList) hN hh1 hgl (.cons _ _ _ _ (.any _ rfl) hb')
      have harr : (Value.func (.yield (w.heap.size + 1)) #[] #[] :: b'.toList).toArray = #[.func (.yield (w.heap.size + 1)) #[] #[]] ++ b' := by
        apply Array.toList_inj.1
        simp
      rw [harr] at key
      refine key.mono ?_
      rintro e2 W2 ⟨m', ⟨v', rfl, _⟩, r1, r2⟩
      have hlt : ∀ b loc, m b = .live loc → loc.cb < w.heap.size := fun b loc hb => hh.lt hb
      have s1 : w.heap.size + 1 < W1.heap.size := (Array.getElem?_eq_some_iff.1 hL1).1
      have hL2 : W2.heap[w.heap.size + 1]? = some (.loop rec) := (r2.keep _ s1 fun b loc hb _ => by have := hlt b loc hb; omega).trans hL1
      have hK2 : W2.heap[w.heap.size]? = some (.deferred (some [])) := (r2.keep _ (by omega) fun b loc hb _ => by have := hlt b loc hb; omega).trans hK1
      have neL : ∀ b loc, m' b = .live loc → loc.cb ≠ w.heap.size + 1 := step_ne r2 s1 fun b loc hb => by have := hlt b loc hb; omega
      have neK : ∀ b loc, m' b = .live loc → loc.cb ≠ w.heap.size := step_ne r2 (by omega) fun b loc hb => by have := hlt b loc hb; omega
      have st2 := st1.trans r2
      have k2 := hk.step st2
      refine ⟨none, W2.putObj (w.heap.size + 1) (.loop { rec with state := .exhausted }), ?_, ?_⟩
      · have := run_endLoop (P := P) hL2 (by rw [hrec]; simp)
        rw [this, hrec]
      · refine hQ m' _ _ .normal (w.heap.size :: l) (r1.other fun b loc hb => World.putObj_heap_other (by have := neL b loc hb; omega)) (st2.putNew (by omega) _) ?_ rfl ⟨?_, fun D hD => ?_, fun D hD => ?_, fun D hD => ?_⟩
        · refine @ARel.mk _ _ _ _ ⟨mkD (w.heap.size :: l)⟩ (fun t => (@ARel.tm _ _ _ _ ⟨mkD l⟩ ha t).mono st2.ext) (show nt ≤ a.tmps.size from @ARel.size _ _ _ _ ⟨mkD l⟩ ha) ?_
          show _ ++ a.defers = mkD (w.heap.size :: l)
          rw [@ARel.def_ _ _ _ _ ⟨mkD l⟩ ha]; rfl
        · refine List.nodup_cons.2 ⟨fun hm => ?_, hk.nd⟩
          have := (Array.getElem?_eq_some_iff.1 (hk.at_ _ hm)).1
          omega
        · rcases List.mem_cons.1 hD with rfl | hD
          · exact (World.putObj_heap_other (by omega)).trans hK2
          · have := (Array.getElem?_eq_some_iff.1 (hk.at_ _ hD)).1
            exact (World.putObj_heap_other (by omega)).trans (k2.at_ D hD)
        · rcases List.mem_cons.1 hD with rfl | hD
          · exact neK
          · exact k2.ne D hD
        · rcases List.mem_cons.1 hD with rfl | hD
          · exact hlo
          · exact hk.lo D hD
theorem rngC_ok (hm : P.follows .mixedOrders = true) {cl : Caller} (hcl : CallOk P ng cl) {fuel : Nat} : ∀ (c : Code) (e e1 : Env) (h h1 : Heap) (ex : AExit), okC ng nt c = true → rngC P cl fuel c e h = some (ex, e1, h1) → HWf h → RngP P ng nt c ex e e1 h h1 := by
  have plain : ∀ (c : Code) (e e1 : Env) (h h1 : Heap) (ex : AExit), codeOk ng nt c = true → engine P cl fuel c e h = some (ex, e1, h1) → HWf h → RngP P ng nt c ex e e1 h h1 := fun c e e1 h h1 ex ok hr hwf => by
    have base := fun (D : Ds nt) => (engine_ok (nt := nt) hm hcl fuel).1 _ _ _ _ _ _ ok hr hwf
    refine ⟨(base ⟨[]⟩).1, (base ⟨[]⟩).2.1, fun N F m w a lo l Q hN hh hg ha hk _ hQ => ?_⟩
    exact (base ⟨mkD l⟩).2.2 N F m w a Q hN hh hg ha fun m' w' a' x q1 q2 q3 q4 => hQ m' w' a' x l q1 q2 q3 q4 (hk.step q2)
  intro c
  induction c with
  | seq a b iha ihb =>
    intro e e' h h' ex hok hr hwf
    have hok : (okC ng nt a && okC ng nt b) = true := hok
    rw [Bool.and_eq_true] at hok
    have hr : (match rngC P cl fuel a e h with
      | some (.normal, e1, h1) => rngC P cl fuel b e1 h1
      | x => x) = some (ex, e', h') := hr
    split at hr
    · rename_i e1 h1 hrun
      obtain ⟨w1, n1, k1⟩ := iha _ _ _ _ _ hok.1 hrun hwf
      obtain ⟨w2, n2, k2⟩ := ihb _ _ _ _ _ hok.2 hr w1
      refine ⟨w2, Nat.le_trans n1 n2, fun N F m w a lo ds Q hN hh hg ha hk hlo hQ => wp_seq ?_⟩
      refine k1 N F m w a lo ds _ (Nat.le_trans n2 hN) hh hg ha hk hlo ?_
      intro m1 x1 a1 x ds1 q1 q2 q3 q4 q5
      have : x = .normal := q4
      subst this
      refine k2 N F m1 x1 a1 lo ds1 Q hN q1 (hg.mono q2.ext) q3 q5 (Nat.le_trans hlo q2.size) ?_
      intro m2 x2 a2 x ds2 p1 p2 p3 p4 p5
      exact hQ m2 x2 a2 x ds2 p1 (q2.trans p2) p3 p4 p5
    · rename_i hne
      obtain ⟨w1, n1, k1⟩ := iha _ _ _ _ _ hok.1 hr hwf
      have hex : ex ≠ .normal := fun e => hne _ _ (e ▸ hr)
      refine ⟨w1, n1, fun N F m w a lo ds Q hN hh hg ha hk hlo hQ => wp_seq ?_⟩
      refine k1 N F m w a lo ds _ hN hh hg ha hk hlo ?_
      intro m1 x1 a1 x ds1 q1 q2 q3 q4 q5
      exact then_of_not (q4.not_normal hex) (hQ m1 x1 a1 x ds1 q1 q2 q3 q4 q5)
  | rangeFunc g ps as1 body _ _ =>
    intro e e1 h h1 ex hok hr hwf
    exact rngIt_ok hcl hok hr hwf
  | block id b ih =>
    intro e e1 h h1 ex hok hr hwf
    have hok : (match hasRng b with
      | true => okC ng nt b
      | false => codeOk ng nt (.block id b)) = true := hok
    have hr : (match hasRng b with
      | true => match rngC P cl fuel b e h with
        | some (.normal, e1, h1) => some (.normal, e1, h1)
        | _ => none
      | false => engine P cl fuel (.block id b) e h) = some (ex, e1, h1) := hr
    cases hb : hasRng b with
    | false =>
      rw [hb] at hok hr
      exact plain _ _ _ _ _ _ hok hr hwf
    | true =>
      rw [hb] at hok hr
      simp only at hok hr
      split at hr <;> try (cases hr; done)
      rename_i e2 h2 hrun
      simp only [Option.some.injEq, Prod.mk.injEq] at hr
      obtain ⟨rfl, rfl, rfl⟩ := hr
      obtain ⟨w1, n1, k1⟩ := ih _ _ _ _ _ hok hrun hwf
      refine ⟨w1, n1, fun N F m w a lo ds Q hN hh hg ha hk hlo hQ => wp_block ?_⟩
      refine k1 N F m w a lo ds _ hN hh hg ha hk hlo ?_
      intro m1 x1 a1 x ds1 q1 q2 q3 q4 q5
      have : x = .normal := q4
      subst this
      exact hQ m1 x1 a1 .normal ds1 q1 q2 q3 rfl q5
  | _ => exact fun e e1 h h1 ex hok hr hwf => plain _ _ _ _ _ _ hok hr hwf
theorem leaves_marks {fn : Func} {tmps : Array Value} {R : Ending → World → Prop} {m m' : Mp} {G : Nat → Option Blk} {w0 : World} : ∀ (ds : List Nat) (w : World), Marks m' w w0.heap.size ds → HRel m' G w → Step m w0 m' w →
    (∀ w2, HRel m' G w2 → Step m w0 m' w2 → ∃ v, (results fn tmps).run P w2 = .ok v w2 ∧ R (.returned v) w2) → LeavesInM Fence.wide 3 P fn tmps R (mkD ds) .returning w
  | [], w, _, hh, st, hR => hR w hh st
  | D :: ds, w, k, hh, st, hR => by
    have hD := k.at_ D List.mem_cons_self
    have hne := k.ne D List.mem_cons_self
    have hnd := List.nodup_cons.1 k.nd
    refine ⟨by simp, .inl ⟨D, w.putObj D (.deferred none), rfl, run_takeDeferred hD, ?_⟩⟩
    refine leaves_marks ds _ ⟨hnd.2, fun D' hD' => ?_, fun D' hD' => k.ne D' (List.mem_cons_of_mem _ hD'), fun D' hD' => k.lo D' (List.mem_cons_of_mem _ hD')⟩ (hh.other fun b loc hb => World.putObj_heap_other (by have := hne b loc hb; omega)) (st.putNew (k.lo D List.mem_cons_self) _) hR
    have : D' ≠ D := fun e => hnd.1 (e ▸ hD')
    exact (World.putObj_heap_other (by omega)).trans (k.at_ D' (List.mem_cons_of_mem _ hD'))
theorem rngF_ok {fn : Func} {f : FuncId} {c : Code} {cl : Caller} {fuel : Nat} (hm : P.follows .mixedOrders = true) (hcl : CallOk P ng cl) (hf : P.funcs[f]? = some fn) (hok : fn.name != "runtime.NumGoroutine")
    (hb : fn.body = some c) (okl : okC ng fn.ntmps c = true) : CallOkAt P ng f (rngF P fn c fuel cl) := by
  intro args h o h' hr hwf
  have hen : Enter P f := by
    intro args w
    simp only [bne_iff_ne, ne_eq] at hok
    simp [callFunc, hf, hok, hb]
  refine ⟨hen, ?_⟩
  have main : ∀ (ex : AExit) (e1 : Env) (h1 : Heap) (v : Value), rngC P cl fuel c (storeL .leaf 0 args) h = some (ex, e1, h1) → (ex = .normal ∨ ex = .ret) → resultV P e1 h1 fn.results.toList = some v →
      HWf h1 ∧ h.nx ≤ h1.nx ∧ ∀ (N : Nat) (F : Nat → Option Blk) (m : Mp) (w : World) (args' : List Value), h1.nx ≤ N → HRel m (mix h N F) w → GlobOk ng m → VRels m args args' →
        Calls P f args'.toArray w fun e w' => ∃ m', ORel m' (.ret v) e ∧ HRel m' (mix h1 N F) w' ∧ Step m w m' w' := by
    intro ex e1 h1 v hrun hex hv
    obtain ⟨w1, n1, k1⟩ := rngC_ok (nt := fn.ntmps) hm hcl c _ _ _ _ _ okl hrun hwf
    refine ⟨w1, n1, fun N F m w args' hN hh hg ha => callsIn_wide.1 (callsIn_of_wp_marks (F := Fence.wide) (n := 3) hf hb trivial (wpIn_wide.2 ?_))⟩
    refine k1 N F m w _ w.heap.size [] _ hN hh hg (args_rel (D := ⟨mkD []⟩) ha _) ⟨List.nodup_nil, fun _ h => absurd h List.not_mem_nil, fun _ h => absurd h List.not_mem_nil, fun _ h => absurd h List.not_mem_nil⟩ (Nat.le_refl _) ?_
    intro m2 x2 a2 x ds p1 p2 p3 p4 p5
    have key : LeavesInM Fence.wide 3 P fn a2.tmps (fun e w' => ∃ m', ORel m' (.ret v) e ∧ HRel m' (mix h1 N F) w' ∧ Step m w m' w') a2.defers .returning x2 := by
      rw [@ARel.def_ _ _ _ _ ⟨mkD ds⟩ p3]
      refine leaves_marks (m := m) (m' := m2) (w0 := w) (G := mix h1 N F) ds x2 p5 p1 p2 fun w2 r1 r2 => ?_
      letI iD : Ds fn.ntmps := ⟨mkD ds⟩
      obtain ⟨v', t1, t2⟩ := resultV_ok r1 w1 hN p3 hv
      exact ⟨v', t1, m2, ⟨v', rfl, t2⟩, r1, r2⟩
    rcases hex with rfl | rfl
    · have : x = .normal := p4
      subst this
      exact key
    · have : x = .ret := p4
      subst this
      exact key
  unfold rngF at hr
  split at hr <;> try (cases hr; done)
  · rename_i e1 h1 hrun
    split at hr <;> try (cases hr; done)
    rename_i v hv
    simp only [Option.some.injEq, Prod.mk.injEq] at hr
    obtain ⟨rfl, rfl⟩ := hr
    exact main _ _ _ _ hrun (.inr rfl) hv
  · rename_i e1 h1 hrun
    split at hr <;> try (cases hr; done)
    rename_i v hv
    simp only [Option.some.injEq, Prod.mk.injEq] at hr
    obtain ⟨rfl, rfl⟩ := hr
    exact main _ _ _ _ hrun (.inl rfl) hv
end Go.AM
end
section
/- Code whose outcome is open: what it may come to; loops over maps in any order. Conditions: as each rule says. -/
set_option linter.unusedSectionVars false
namespace Go.AM
variable {P : Program} {ng nt : Nat} [Ds nt] {sp : Special} {c : Code} {e : Env} {h : Heap} {Q Q1 : AExit → Env → Heap → Prop}

theorem mix_none {h : Heap} (hwf : HWf h) {N : Nat} (hN : h.nx ≤ N) : mix h N (fun _ => none) = h.get := by
  funext b
  unfold mix
  by_cases hb : b < N
  · rw [if_pos hb]
  · rw [if_neg hb, hwf b (by omega)]

def Land (nt : Nat) [Ds nt] (m : Mp) (w : World) (Q : AExit → Env → Heap → Prop) : Exit → Act → World → Prop := fun x a' w' =>
  ∃ ex e' h' m', Q ex e' h' ∧ HWf h' ∧ HRel m' h'.get w' ∧ Step m w m' w' ∧ ARel m' e'.at a' nt ∧ XRel m' ex x
theorem Land.trans {m m' : Mp} {w w' w'' : World} {x : Exit} {a : Act} (hs : Step m w m' w') (hl : Land nt m' w' Q x a w'') : Land nt m w Q x a w'' := by
  obtain ⟨ex, e', h', m2, q, hw, hh, hs2, hr, hx⟩ := hl
  exact ⟨ex, e', h', m2, q, hw, hh, hs.trans hs2, hr, hx⟩
def Good (P : Program) (ng nt : Nat) [Ds nt] (c : Code) (e : Env) (h : Heap) (Q : AExit → Env → Heap → Prop) : Prop :=
  HWf h → ∀ m w a, HRel m h.get w → GlobOk ng m → ARel m e.at a nt → c.wp P (Land nt m w Q) a w
theorem Good.mono (hg : Good P ng nt c e h Q1) (hq : ∀ ex e' h', Q1 ex e' h' → Q ex e' h') : Good P ng nt c e h Q := fun hwf m w a hh hgl hr =>
  wp_mono (hg hwf m w a hh hgl hr) fun _ _ _ ⟨ex, e', h', m', q, r⟩ => ⟨ex, e', h', m', hq _ _ _ q, r⟩
theorem Good.seq {c1 c2 : Code} (h1 : Good P ng nt c1 e h fun ex e' h' => (ex = .normal → Good P ng nt c2 e' h' Q) ∧ (ex ≠ .normal → Q ex e' h')) : Good P ng nt (.seq c1 c2) e h Q := by
  intro hwf m w a hh hg hr
  refine wp_seq (wp_mono (h1 hwf m w a hh hg hr) ?_)
  rintro x a' w' ⟨ex, e', h', m', ⟨qn, qx⟩, hwf', hh', hs, hr', hx⟩
  by_cases hn : ex = .normal
  · subst hn
    have : x = .normal := hx
    subst this
    exact wp_mono (qn rfl hwf' m' w' a' hh' (hg.mono hs.ext) hr') fun _ _ _ hl => hl.trans hs
  · exact then_of_not (hx.not_normal hn) ⟨ex, e', h', m', qx hn, hwf', hh', hs, hr', hx⟩
def leave (id : Nat) : AExit → AExit
  | .exit i => if i = id then .normal else .exit i
  | x => x
theorem Good.block {id : Nat} (hc : Good P ng nt c e h fun ex e' h' => Q (leave id ex) e' h') : Good P ng nt (.block id c) e h Q := by
  intro hwf m w a hh hg hr
  refine wp_block (wp_mono (hc hwf m w a hh hg hr) ?_)
  rintro x a' w' ⟨ex, e', h', m', q, hwf', hh', hs, hr', hx⟩
  cases ex with
  | exit i =>
    have : x = .exit i := hx
    subst this
    unfold Exit.inBlock
    by_cases e : i = id
    · simp only [if_pos e]
      simp only [leave, if_pos e] at q
      exact ⟨.normal, e', h', m', q, hwf', hh', hs, hr', rfl⟩
    · simp only [if_neg e]
      simp only [leave, if_neg e] at q
      exact ⟨.exit i, e', h', m', q, hwf', hh', hs, hr', rfl⟩
  | normal => have : x = .normal := hx; subst this; exact ⟨.normal, e', h', m', q, hwf', hh', hs, hr', rfl⟩
  | ret => have : x = .ret := hx; subst this; exact ⟨.ret, e', h', m', q, hwf', hh', hs, hr', rfl⟩
  | goto l => have : x = .goto l := hx; subst this; exact ⟨.goto l, e', h', m', q, hwf', hh', hs, hr', rfl⟩
  | pan v =>
    obtain ⟨v', e, hv⟩ := (hx : ∃ v', x = .panic [{ v := v', recovered := false }] ∧ VRel m' v v')
    subst e
    exact ⟨.pan v, e', h', m', q, hwf', hh', hs, hr', v', rfl, hv⟩
theorem Good.cond {x : Operand} {c1 c2 : Code} {t : Bool} (hx : operOk ng x = true) (ht : e.eval x = .bool t) (hc : Good P ng nt (bif t then c1 else c2) e h Q) : Good P ng nt (.cond x c1 c2) e h Q := by
  intro hwf m w a hh hg hr
  have hev := hr.eval hg hx
  rw [← Env.eval_eq, ht] at hev
  generalize hv : a.eval x = v at hev
  cases hev
  refine wp_cond hv ?_
  have := hc hwf m w a hh hg hr
  cases t <;> exact this
theorem Good.loop {n : Nat} (I : Nat → Env → Heap → Prop) (step : ∀ n e h, I n e h → Good P ng nt c e h fun ex e' h' => (ex = .normal ∧ ∃ k, k < n ∧ I k e' h') ∨ (ex ≠ .normal ∧ Q ex e' h')) (h0 : I n e h) : Good P ng nt (.loop c) e h Q := by
  intro hwf m w a hh hg hr
  have key : ∀ N n, n < N → ∀ e h, I n e h → HWf h → ∀ m1 w1 a1, Step m w m1 w1 → HRel m1 h.get w1 → ARel m1 e.at a1 nt → Code.rounds P c (Land nt m w Q) N a1 w1 := by
    intro N
    induction N with
    | zero => intro n hn; omega
    | succ N ih =>
      intro n hn e h hI hwf m1 w1 a1 hs hh hr
      rw [rounds_succ]
      refine wp_mono (step n e h hI hwf m1 w1 a1 hh (hg.mono hs.ext) hr) ?_
      rintro x a' w' ⟨ex, e', h', m', q, hwf', hh', hs', hr', hx⟩
      rcases q with ⟨rfl, k, hk, hI'⟩ | ⟨hne, hq⟩
      · have : x = .normal := hx
        subst this
        exact ih k (by omega) e' h' hI' hwf' m' w' a' (hs.trans hs') hh' hr'
      · exact then_of_not (hx.not_normal hne) ⟨ex, e', h', m', hq, hwf', hh', hs.trans hs', hr', hx⟩
  exact wp_loop_rounds (n + 1) (key (n + 1) n (Nat.lt_succ_self n) e h h0 hwf m w a (.refl m w) hh hr)

/- ## Functions -/
def WFS (P : Program) (ng : Nat) (f : FuncId) (args : List Value) (h : Heap) (R : Out → Heap → Prop) : Prop :=
  HWf h → Enter P f ∧ ∀ m w args', HRel m h.get w → GlobOk ng m → VRels m args args' → Calls P f args'.toArray w fun e w' => ∃ o h' m', R o h' ∧ HWf h' ∧ ORel m' o e ∧ HRel m' h'.get w' ∧ Step m w m' w'
theorem WFS.fn {f : FuncId} {fn : Func} {c : Code} {args : List Value} {R : Out → Heap → Prop} (hf : P.funcs[f]? = some fn) (hok : fnOk ng fn = true) (hc : fn.body = some c) (hr : @Good P ng fn.ntmps ⟨[]⟩ c (storeL .leaf 0 args) h (FnQ P fn.results.toList R)) : WFS P ng f args h R := by
  intro hwf
  obtain ⟨hen, c', hc', hcok⟩ := enter_of_ok hf hok
  letI : Ds fn.ntmps := ⟨[]⟩
  refine ⟨hen, fun m w args' hh hg ha => calls_of_wp hf hc (wp_mono (hr hwf m w _ hh hg (args_rel ha _)) ?_)⟩
  rintro x a' w' ⟨ex, e', h', m', q, hwf', hh', hs, hr', hx⟩
  have hh2 : HRel m' (mix h' h'.nx fun _ => none) w' := by rw [mix_none hwf' (Nat.le_refl _)]; exact hh'
  cases ex with
  | normal =>
    have : x = .normal := hx
    subst this
    obtain ⟨v, hv, hR⟩ := (q : ∃ v, resultV P e' h' fn.results.toList = some v ∧ R (.ret v) h')
    obtain ⟨v', r1, r2⟩ := resultV_ok hh2 hwf' (Nat.le_refl _) hr' hv
    exact ⟨hr'.def_, v', r1, .ret v, h', m', hR, hwf', ⟨v', rfl, r2⟩, hh', hs⟩
  | ret =>
    have : x = .ret := hx
    subst this
    obtain ⟨v, hv, hR⟩ := (q : ∃ v, resultV P e' h' fn.results.toList = some v ∧ R (.ret v) h')
    obtain ⟨v', r1, r2⟩ := resultV_ok hh2 hwf' (Nat.le_refl _) hr' hv
    exact ⟨hr'.def_, v', r1, .ret v, h', m', hR, hwf', ⟨v', rfl, r2⟩, hh', hs⟩
  | pan v =>
    obtain ⟨v', e, hv⟩ := (hx : ∃ v', x = .panic [{ v := v', recovered := false }] ∧ VRel m' v v')
    subst e
    exact ⟨hr'.def_, .pan v, h', m', q, hwf', ⟨v', rfl, hv⟩, hh', hs⟩
  | exit i => exact q.elim
  | goto l => exact q.elim

/- ## Regions with such calls -/
def GoodO (P : Program) (ng nt : Nat) [Ds nt] (all l : List Oper) (e : Env) (h : Heap) (Q : AExit → Env → Heap → Prop) : Prop :=
  HWf h → ∀ k, (∀ j, j < l.length → l[j]? = all[k + j]?) → l.all (opersOk ng nt) = true → ∀ m w a, HRel m h.get w → GlobOk ng m → ARel m e.at a nt → wpOps P all.toArray (Land nt m w Q) (List.range' k l.length) a w
theorem Good.region {id : Nat} {ops : Array Oper} (hok : codeOk ng nt (.region id ops false) = true) (hg : GoodO P ng nt ops.toList ops.toList e h Q) : Good P ng nt (.region id ops false) e h Q := by
  intro hwf m w a hh hgl hr
  have := hg hwf 0 (fun j _ => by simp) hok m w a hh hgl hr
  refine wp_region ?_
  rwa [Array.toArray_toList, Array.length_toList, ← List.range_eq_range'] at this
theorem upon_then {o : Oper} {a : Act} {next K : Act → World → Prop} {Q : Exit → Act → World → Prop} (r : Result Next) : o.upon P a next (Exit.then K Q) r = o.upon P a next Q r := by
  cases r with
  | ok n w' => cases n <;> rfl
  | halt x w' => cases x <;> rfl
theorem wpOps_app {ops : Array Oper} {Q : Exit → Act → World → Prop} {r2 : List Nat} : ∀ (r1 : List Nat) (a : Act) (w : World), wpOps P ops (Exit.then (fun a w => wpOps P ops Q r2 a w) Q) r1 a w → wpOps P ops Q (r1 ++ r2) a w := by
  intro r1
  induction r1 with
  | nil => intro a w h; exact h
  | cons i r1 ih =>
    intro a w h
    simp only [List.cons_append, wpOps] at h ⊢
    cases ho : ops[i]? with
    | none => rw [ho] at h; exact ih a w h
    | some o =>
      rw [ho] at h
      simp only at h ⊢
      split
      · rename_i hw
        rw [if_pos hw] at h
        refine h.imp (fun h => ?_) (fun h => h)
        unfold Oper.wp at h
        rw [upon_then] at h
        exact Oper.wp_mono (fun a w => ih a w) h
      · rename_i hw
        rw [if_neg hw] at h
        exact ih _ _ h
theorem upon_mono {o : Oper} {a : Act} {K K' : Act → World → Prop} {Q Q' : Exit → Act → World → Prop} (hk : ∀ a w, K a w → K' a w) (hq : ∀ x a w, Q x a w → Q' x a w) (r : Result Next) (h : o.upon P a K Q r) : o.upon P a K' Q' r := by
  cases r with
  | ok n w' =>
    cases n <;> simp only [Oper.upon] at h ⊢ <;>
      first
        | exact hk _ _ h
        | exact Calls.mono h (fun e w'' he => by cases e <;> first | exact hk _ _ he | exact hq _ _ _ he | exact he.imp fun _ he => he.imp fun _ he => hq _ _ _ he)
        | exact Rows.mono h (fun _ _ he => hk _ _ he)
  | halt x w' => cases x <;> simp only [Oper.upon] at h ⊢ <;> first | exact hq _ _ _ h | exact h
theorem wpOps_mono {ops : Array Oper} {Q Q' : Exit → Act → World → Prop} (hq : ∀ x a w, Q x a w → Q' x a w) : ∀ (l : List Nat) (a : Act) (w : World), wpOps P ops Q l a w → wpOps P ops Q' l a w := by
  intro l
  induction l with
  | nil => intro a w2 h; exact hq _ _ _ h
  | cons i r ih =>
    intro a w2 h
    simp only [wpOps] at h ⊢
    cases ho : ops[i]? with
    | none => rw [ho] at h; exact ih a w2 h
    | some o =>
      rw [ho] at h
      simp only at h ⊢
      split
      · rename_i hw
        rw [if_pos hw] at h
        exact h.imp (fun h => upon_mono (fun a w => ih a w) hq _ h) (fun h => ⟨h.1, h.2.imp fun _ he => he.imp fun _ he => hq _ _ _ he⟩)
      · rename_i hw
        rw [if_neg hw] at h
        exact ih _ _ h
theorem wpOps_land {m m' : Mp} {w w' : World} {ops : Array Oper} (hs : Step m w m' w') (l : List Nat) (a : Act) (w2 : World) (h : wpOps P ops (Land nt m' w' Q) l a w2) : wpOps P ops (Land nt m w Q) l a w2 :=
  wpOps_mono (fun _ _ _ hl => hl.trans hs) l a w2 h
theorem GoodO.take (n : Nat) {all l : List Oper} (hm : P.follows .mixedOrders = true) (hsp : SpecOk P ng sp)
    (hr : Run P ng sp (fun ex e' h' => (ex = .normal → GoodO P ng nt all (l.drop n) e' h' Q) ∧ (ex ≠ .normal → Q ex e' h')) [] (.ops all (l.take n)) e h) : GoodO P ng nt all l e h Q := by
  obtain ⟨ex, e', h', ⟨N, hN⟩, hx⟩ := hr.sem
  obtain ⟨hxn, hxx⟩ : (ex = .normal → GoodO P ng nt all (l.drop n) e' h' Q) ∧ (ex ≠ .normal → Q ex e' h') := hx
  have hrun := hN N N (Nat.le_refl _) (Nat.le_refl _)
  intro hwf k hl hok m w a hh hg hr
  have hsplit : List.range' k l.length = List.range' k (l.take n).length ++ List.range' (k + (l.take n).length) (l.drop n).length := by
    rw [List.range'_append_1, ← List.length_append, List.take_append_drop]
  rw [hsplit]
  refine wpOps_app _ _ _ ?_
  have hok1 : (l.take n).all (opersOk ng nt) = true := by
    rw [List.all_eq_true] at hok ⊢
    exact fun x hx => hok x (List.mem_of_mem_take hx)
  have hok2 : (l.drop n).all (opersOk ng nt) = true := by
    rw [List.all_eq_true] at hok ⊢
    exact fun x hx => hok x (List.mem_of_mem_drop hx)
  obtain ⟨g1, g2, g3⟩ := ops_wp (acall_ok hm hsp N N) all.toArray (l.take n) k e e' h h' ex (fun j hj => by
    have hj : j < n ∧ j < l.length := by rw [List.length_take] at hj; omega
    rw [List.getElem?_take, if_pos hj.1]
    exact hl j hj.2) hok1 hwf hrun
  refine g3 h'.nx (fun _ => none) m w a _ (Nat.le_refl _) (by rw [mix_none hwf g2]; exact hh) hg hr ?_
  intro m' w' a' x q1 q2 q3 q4
  rw [mix_none g1 (Nat.le_refl _)] at q1
  by_cases hn : ex = .normal
  · subst hn
    have : x = .normal := q4
    subst this
    have := hxn rfl g1 (k + (l.take n).length) (fun j hj => by
      have hj : j < l.length - n := by simpa using hj
      rw [List.getElem?_drop, List.length_take, show min n l.length = n by omega, Nat.add_assoc]
      exact hl (n + j) (by omega)) hok2 m' w' a' q1 (hg.mono q2.ext) q3
    exact wpOps_land q2 _ _ _ this
  · exact then_of_not (q4.not_normal hn) ⟨ex, e', h', m', hxx hn, g1, q1, q2, q3, q4⟩
theorem GoodO.call {all r : List Oper} {o : Oper} {c : Call} {f : FuncId} {args : List Value} {R : Out → Heap → Prop} (hgd : o.guard = none) (hop : o.op = .call c) (hc : callee P c e.eval = some (f, args)) (hw : WFS P ng f args h R)
    (hp : ∀ v h', ¬ R (.pan v) h') (hk : ∀ v h', R (.ret v) h' → GoodO P ng nt all r (e.put o.dst v) h' Q) : GoodO P ng nt all (o :: r) e h Q := by
  intro hwf k hl hok m w a hh hg hr
  simp only [List.all_cons, Bool.and_eq_true] at hok
  have h0 : all.toArray[k]? = some o := by have := hl 0 (by simp); simpa using this.symm
  obtain ⟨hen, hcalls⟩ := hw hwf
  simp only [List.length_cons, List.range'_succ]
  refine wpOps_step h0 (by simp [Region.wanted, hgd]) ?_
  have hops : ∀ x ∈ c.operands.toList, VRel m (evalF e.at x) (a.eval x) := by
    have := opers_rel hr hg hok.1
    rw [hop] at this
    exact this
  rw [Env.eval_eq] at hc
  obtain ⟨args', h1, h2⟩ := call_run (P := P) (w := w) hop hops hc hen
  unfold Oper.wp
  rw [h2]
  refine (hcalls m w args' hh hg h1).mono ?_
  rintro en w' ⟨out, h', m', hR, hwf', ho, hh', hs⟩
  cases out with
  | pan v => exact absurd hR (hp v h')
  | ret v =>
    obtain ⟨v', rfl, hv⟩ := ho
    have := hk v h' hR hwf' (k + 1) (fun j hj => by have := hl (j + 1) (by simpa using hj); simpa [Nat.add_assoc, Nat.add_comm 1 j] using this) hok.2 m' w' (a.put o.dst v') hh' (hg.mono hs.ext) (by rw [Env.put_at]; exact (hr.mono hs.ext).put hv (dst_lt hok.1))
    exact wpOps_land hs _ _ _ this
/- ## Loops over maps -/
theorem XRel.same {m m' : Mp} (e : Alike m m') {ex : AExit} {x : Exit} (h : XRel m ex x) : XRel m' ex x := by
  cases ex with
  | pan v => obtain ⟨v', h1, h2⟩ := (h : ∃ v', x = .panic [{ v := v', recovered := false }] ∧ VRel m v v'); exact ⟨v', h1, h2.same e⟩
  | _ => exact h
theorem XRel.mono {m m' : Mp} (e : Ext m m') {ex : AExit} {x : Exit} (h : XRel m ex x) : XRel m' ex x := by
  cases ex with
  | pan v => obtain ⟨v', h1, h2⟩ := (h : ∃ v', x = .panic [{ v := v', recovered := false }] ∧ VRel m v v'); exact ⟨v', h1, h2.mono e⟩
  | _ => exact h
theorem get_put (h : Heap) (d : Nat) (x : Blk) : (h.put d x).get = fun b => if b = d then some x else h.get b := by
  funext b
  show (h.t.set d x).get b = _
  rw [Trie.get_set]; rfl
theorem HRel.drop {m : Mp} {h : Heap} {w : World} {d r since last : Nat} {seen : List Nat} (hh : HRel m (h.put d (.iter r since seen none last)).get w) :
    ∃ m', HRel m' (h.put d .dead).get w ∧ Step m w m' w := by
  rw [get_put] at hh
  have hb := hh.blk d
  simp only [if_pos] at hb
  cases hm : m d with
  | fresh => rw [hm] at hb; exact hb.elim
  | dead => rw [hm] at hb; exact hb.elim
  | sym k n => rw [hm] at hb; exact hb.elim
  | live l =>
    rw [hm] at hb
    obtain ⟨k1, k2⟩ := hh.kill hm hb.1.1
    refine ⟨_, ?_, k2⟩
    rw [get_put]
    have e : (fun b' => if b' = d then some Blk.dead else if b' = d then some (Blk.iter r since seen none last) else h.get b') = fun b' => if b' = d then some .dead else h.get b' := by
      funext b'
      by_cases e : b' = d
      · rw [if_pos e, if_pos e]
      · rw [if_neg e, if_neg e, if_neg e]
    rw [e] at k1
    exact k1
end Go.AM
end
section
/- A call without arguments that gave true in a run of its own: a special for it, where no globals are named. -/
namespace Go.AM
variable {P : Program}
end Go.AM
end
section
/- From a walk to the model: laws whose arguments are read alone. Conditions: each block of the abstract heap stands for what the arguments hold. -/
namespace Go.AM
open Go.ChangeShapes Go.WideShapes
variable {P : Program} {W : World}
theorem list_rel2 {l : List Blk} {st : List AM.Stat} (hlen : st.length = l.length) (hb : ∀ (i : Nat) (s : AM.Stat) (b : Blk), st[i]? = some s → l[i]? = some b → BRel (statMp st) W s (some b))
    (hro : ∀ (i : Nat) (l1 : Loc) (b : Blk), st[i]? = some (.live l1) → l[i]? = some b → roB (some b) = true) (N : Nat) (hN : l.length ≤ N) : HRel (statMp st) (mix (listHeap l) N fun _ => none) W := by
  have key : ∀ b, mix (listHeap l) N (fun _ => none) b = l[b]? := by
    intro b
    unfold mix
    rw [listHeap_get]
    by_cases h : b < l.length
    · rw [if_pos (by omega)]
    · rw [List.getElem?_eq_none (by omega)]
      split <;> rfl
  refine ⟨fun b => ?_, fun b b' l1 l2 h1 h2 e hq => ?_⟩
  · rw [key]
    by_cases h : b < l.length
    · have h1 : st[b]? = some (st[b]'(by omega)) := List.getElem?_eq_getElem _
      have h2 : l[b]? = some (l[b]'h) := List.getElem?_eq_getElem _
      have : statMp st b = st[b]'(by omega) := by unfold statMp; rw [h1]; rfl
      rw [this, h2]
      exact hb b _ _ h1 h2
    · have : statMp st b = .fresh := by unfold statMp; rw [List.getElem?_eq_none (by omega)]; rfl
      rw [this, List.getElem?_eq_none (by omega)]
      trivial
  · rw [key] at hq
    have h1' := statMp_get h1 (by simp)
    have hb' : b < st.length := (List.getElem?_eq_some_iff.1 h1').1
    rw [hlen] at hb'
    have h2' : l[b]? = some (l[b]'hb') := List.getElem?_eq_getElem _
    rw [h2', hro b l1 _ h1' h2'] at hq
    cases hq
theorem wf_list {ng : Nat} {sp : Special} (hm : P.follows .mixedOrders = true) (hsp : SpecOk P ng sp) {f : FuncId} {args args' : List Value} {l : List Blk} {st : List AM.Stat} (hlen : st.length = l.length) (hb : ∀ (i : Nat) (s : AM.Stat) (b : Blk), st[i]? = some s → l[i]? = some b → BRel (statMp st) W s (some b))
    (hro : ∀ (i : Nat) (l1 : Loc) (b : Blk), st[i]? = some (.live l1) → l[i]? = some b → roB (some b) = true ∧ l1.rw = false) (hg : GlobOk ng (statMp st))
    (hw : WF P ng sp f args (listHeap l) fun o _ => o = .ret (.bool true)) (ha : VRels (statMp st) args args') : Calls P f args'.toArray W fun e W' => e = .returned (.bool true) ∧ Still W W' := by
  obtain ⟨o, h', ⟨N, hN⟩, rfl⟩ := hw
  refine true_callsG (acall_ok hm hsp N N) (listHeap_wf l) (fun N hN => list_rel2 hlen hb (fun i l1 b h1 h2 => (hro i l1 b h1 h2).1) N hN) hg ?_ (by rw [hN N N (Nat.le_refl _) (Nat.le_refl _)]; rfl) ha
  intro b l1 h1
  have h1' := statMp_get h1 (by simp)
  have hb' : b < st.length := (List.getElem?_eq_some_iff.1 h1').1
  rw [hlen] at hb'
  exact (hro b l1 _ h1' (List.getElem?_eq_getElem hb')).2

end Go.AM
end
section
/- copy, laid out for rewriting. Conditions: the rows that are named. -/
namespace Go.AM
variable {P : Program}
end Go.AM
end
section
/- Maps with int keys, for rewriting; the entry that a loop is at. Conditions: as each rule says. -/
set_option linter.unusedSectionVars false
namespace Go.AM
variable {P : Program}
variable {ng nt : Nat} [Ds nt] {e : Env} {h : Heap} {Q : AExit → Env → Heap → Prop}
theorem guard_undef {all : List Oper} {e : Env} {o : Oper} {j : Nat} {want : Bool} (hg : o.guard = some (j, want)) (hv : gval all e j = undef) : guardOk all e o = true ∧ wantedA all e o = false := by
  unfold gval at hv
  unfold guardOk wantedA
  rw [hg]
  simp only
  split at hv
  · rename_i d hd
    rw [hd]
    simp only
    rw [hv]
    exact ⟨rfl, rfl⟩
  · cases hv
theorem runG_undef {sp : Special} {K : List Frm} {all r : List Oper} {d : Option Tmp} {op : Op} {t : TypeId} {p : String} {af : Array Edge} {j : Nat} {want : Bool} {e : Env} {h : Heap} :
    RunG P ng sp Q K all r ⟨d, op, t, p, af, some (j, want)⟩ j undef e h ↔ undef = gval all e j ∧ Run P ng sp Q K (.ops all r) (e.put d undef) h := by
  refine and_congr_right fun hv => ?_
  obtain ⟨h1, h2⟩ := @guard_undef all e ⟨d, op, t, p, af, some (j, want)⟩ j want rfl hv.symm
  constructor
  · intro hr
    cases hr with
    | oskip _ _ h3 => exact h3
    | oeff _ h3 _ _ _ => rw [h2] at h3; cases h3
    | ocall _ h3 _ _ _ _ _ => rw [h2] at h3; cases h3
    | ocallp _ h3 _ _ _ _ _ => rw [h2] at h3; cases h3
    | opanic _ h3 _ _ _ => rw [h2] at h3; cases h3
  · exact fun hr => .oskip h1 h2 hr
theorem GoodO.nil {all : List Oper} (hq : Q .normal e h) : GoodO P ng nt all [] e h Q := fun hwf _ _ _ m w _ hh _ hr => ⟨.normal, e, h, m, hq, hwf, hh, .refl m w, hr, rfl⟩
theorem HWf.new {h : Heap} (hw : HWf h) (x : Blk) : HWf (h.new x) := fun b hb => by
  rw [Heap.nx_new] at hb
  rw [Heap.get_new_ne _ _ (by omega)]; exact hw b (by omega)
theorem HWf.upd {h : Heap} (hw : HWf h) {d : Nat} (hd : d < h.nx) (x : Blk) : HWf (h.upd d x) := fun b hb => by
  rw [Heap.nx_upd] at hb
  rw [Heap.get_upd_ne _ _ (by omega)]; exact hw b hb
theorem HWf.lt {h : Heap} (hw : HWf h) {b : Nat} {x : Blk} (hb : h.get b = some x) : b < h.nx := by
  rcases Nat.lt_or_ge b h.nx with q | q
  · exact q
  · rw [hw b q] at hb; cases hb
theorem GoodO.entry {all r : List Oper} {o : Oper} {x : Operand} {v : Value} (hgd : o.guard = none) (hop : o.op = .entry x) (hv : effEntry (e.eval x) h.get = some v) (hk : GoodO P ng nt all r (e.put o.dst v) h Q) : GoodO P ng nt all (o :: r) e h Q := by
  intro hwf k hl hok m w a hh hg hr
  simp only [List.all_cons, Bool.and_eq_true] at hok
  have h0 : all.toArray[k]? = some o := by have := hl 0 (by simp); simpa using this.symm
  simp only [List.length_cons, List.range'_succ]
  refine wpOps_step h0 (by simp [Region.wanted, hgd]) ?_
  rw [Env.eval_eq] at hv
  refine entry_wp (N := h.nx) (F := fun _ => none) hop (by rw [mix_none hwf (Nat.le_refl _)]; exact hh) hwf (Nat.le_refl _) hr hg hok.1 hv ?_
  intro v' hv'
  exact hk hwf (k + 1) (fun j hj => by have := hl (j + 1) (by simpa using hj); simpa [Nat.add_assoc, Nat.add_comm 1 j] using this) hok.2 m w (a.put o.dst v') hh hg (by rw [Env.put_at]; exact hr.put hv' (dst_lt hok.1))
end Go.AM
end
