/- The rules by which statements are walked, as one set. Written by program. -/
import Derived.Test.YtpodkdondibbfaaEq
namespace Go.Proofs
open Go Go.Mu
attribute [go_sem ↓] ev_nil ev_inBlock ev_inScope ev_inLoop ev_skip ev_label ev_seq ev_block ev_scope ev_condI ev_exitI ev_goto
attribute [go_sem ↓] ev_ret ev_region ev_draw ev_loop evK_eq evOps_nil evOps_plain evOps_guardA evNext_none evNext_some evD_nil evD_consW
attribute [go_sem ↓] evDp_plain evPc_call evDo_plain evDo_guardA evNextD_none evNextD_some evOp_move evOp_assign evOp_pick evOp_build evOp_fieldAddr evOp_field
attribute [go_sem ↓] evOp_index evOp_indexAddr evOp_nilCheck evOp_bin evOp_unOp evOp_convert evOp_makeInterface evOp_makeFunc evOp_extract evOp_typeAssert evOp_slice evOp_len1
attribute [go_sem ↓] evOp_max evOp_min evOp_buildSlice evOp_makeSlice evOp_alloc evOp_box evOp_load evOp_store evOp_append evOp_copy evOp_callF evOp_invokeI
attribute [go_sem ↓] evOp_next evOp_makeMap evOp_lookup evOp_mapUpdate evOp_range ev_rangeI ev_beginI evOp_entry evOp_nextS
attribute [go_sem] evIf_true evIf_false evIf_decide evIf_not exO_some exO_none getO_some guardA_tt guardA_ff guardA_tf guardA_ft guardA_tup
attribute [go_sem] guardB_tt guardB_ff guardB_tf guardB_ft guardB_tup isSelf_nil isSelf_one isSelf_two evDs_true evDs_false callP_some givP_some
attribute [go_sem] nthO_zero nthO_succ recheck_nil recheck_cons reOK_plain callF_fn callF_yield callI_some callM_some callA_eq callO_give callO_none
attribute [go_sem] isInt isStrK keyI keyOK ne_eq pop hop litOp aeval aevals ofVal ofVal1
attribute [go_sem] ofVals binS_true binS_false isNilC_tmp isNilC_int isNilC_bool isNilC_str isNilC_nil isNilC_iface isNilC_ptr nilA_eql nilA_neq
attribute [go_sem] giveA_some giveB_giveC giveC_true giveC_false giveC_decide giveC_beq giveC_bne giveC_ndecide giveC_list giveC_listn giveB_int giveB_str
attribute [go_sem] giveB_agg giveB_tup giveB_list giveB_iface giveB_fn give2_some giveR_some retPost_ret retPost_none oneOf_one oneOf_nil oneOf_more
attribute [go_sem] resAs resA1 Fr.put Fr.get Fr.anew ins lookA number dstOf_zero dstOf_succ exitTo_block exitTo_code
attribute [go_sem] exitTo_loop exitTo_scope exitTo_nil binA oneA apart litA fillA putAt_cons putAt_set subAt TK.agg
attribute [go_sem] lenA lenO List.getElem?_toArray maxA maxL minA minL intsA hget_at0 hget_at hset_at0 hset_at
attribute [go_sem] hset_hset length_hset appA appB_ff appB_nil appB_cons appB_own appF appV loadV storeV ofCells
attribute [go_sem] canonL elSz canonE nilA_eqlV nilA_neqV List.append_assoc if_true if_false ite_true ite_false dite_true decide_true
attribute [go_sem] decide_false Bool.false_eq_true Bool.true_eq_false true_and and_true false_and and_false true_or or_true false_or or_false not_true_eq_false
attribute [go_sem] not_false_eq_true false_implies true_implies implies_true forall_const and_self Bool.not_true Bool.not_false Bool.true_and Bool.and_true Bool.false_and Bool.and_false
attribute [go_sem] Bool.true_or Bool.or_true Bool.false_or Bool.or_false beq_self_eq_true decide_eq_true_eq decide_eq_false_iff_not Option.isSome_some Option.isSome_none Option.map_some Option.map_none Option.bind_some
attribute [go_sem] Option.bind_none Option.some.injEq List.length_cons List.length_nil List.getElem?_cons_zero List.getElem?_cons_succ List.getElem?_nil List.take_succ_cons List.take_zero List.drop_succ_cons List.drop_zero List.take_nil
attribute [go_sem] List.drop_nil List.cons_append List.nil_append List.append_nil List.length_append List.length_map List.set_cons_zero List.set_cons_succ List.map_cons List.map_nil Nat.zero_add Nat.add_zero
attribute [go_sem] ge_iff_le gt_iff_lt post_app post_nil wk_tup wk_agg wk_int wk_bool wk_str wk_iface wk_list wk1_agg
attribute [go_sem] wk1_int wk1_bool wk1_str wk1_list wk0_int wk0_bool wk0_str wk0_list wkL_nil wkL_cons AV.int.injEq AV.bool.injEq
attribute [go_sem] AV.str.injEq upd List.all_cons List.all_nil eq_self_iff_true and_imp spec1 spec2 spec3 spec4 tI_dec tB_dec
attribute [go_sem] tIs_dec tRng_dec tRd_dec tEar_dec tT_dec tTs_dec decI_int decB_bool decL_ints decL_rng decL_rd decL_t
attribute [go_sem] decL_nil decL_cons decs_cons decs_nil decs_ints decEar decRng decRd decRng_av decRd_av decT_av decT_agg
attribute [go_sem] leT leF ltT ltF eqT eqF nleT nltT wrapI tget Int.cast_ofNat_Int Int.natCast_add
attribute [go_sem] Nat.mul_one bne_self_eq_false idx_nat getElem?_at getElem?_at' set_at set_at' Rd_eta Rng_eta Rd_eta' neqT take_map
attribute [go_sem] neqF nltF cells_bool flat_bool cells_int flat_int cells_str flat_str cells_ptr flat_ptr cells_nilptr flat_nilptr
attribute [go_sem] cells_eptr flat_eptr cells_list flat_list cells_arr flat_arr cells_vec flat_vec cells_vptr flat_vptr cells_map flat_map
attribute [go_sem] cells_nilmap flat_nilmap cells_fn flat_fn cells_yield flat_yield cells_nilfn flat_nilfn cells_iface flat_iface cells_niliface flat_niliface
attribute [go_sem] cells_agg flat_agg putAt_map3 lookI updI lookB lookB2 updB mget_mset Option.getD_some entR nextS_ptr
attribute [go_sem] nextSR_it nextSB_some nextSB_none convS_some convS_none bytesL cvO Try.EN Try.Ety Try.Eord Try.EP Try.Emt
attribute [go_sem] Try.Efs Try.ty2 Try.ty3 Try.ty4 Try.ty5 Try.ty6 Try.ty8 Try.ty9 Try.ty10 Try.ty11 Try.ty12 Try.ty14
attribute [go_sem] Try.ty15 Try.ty16 Try.ty17 Try.ty19 Try.ty22 Try.ty23 Try.ty26 Try.ty28 Try.ty30 Try.ty31 Try.ty33 Try.ty38
attribute [go_sem] Try.ty40 Try.ty42 Try.ty44 Try.ty56 Try.ty67 Try.ty69 Try.ty80 Try.ty82 Try.ty87 Try.ty88 Try.ty93 Try.ty97
attribute [go_sem] Try.ty99 Try.ty103 Try.ty104 Try.ty109 Try.ty112 Try.ty113 Try.ty120 Try.ty122 Try.ty125 Try.ty127 Try.ty128 Try.ty133
attribute [go_sem] Try.ty134 Try.ty135 Try.ty136 Try.ty137 Try.ty143 Try.ty144 Try.ty146 Try.ty147 Try.ty148 Try.ty149 Try.ty150 Try.ty151
attribute [go_sem] Try.ty152 Try.ty153 Try.ty155 Try.ord3_9 Try.ord3_10 Try.ord4_23 Try.ord4_25 Try.ord5_5 Try.ord5_6 Try.ord6_11 Try.ord10_2 Try.ord10_8
attribute [go_sem] Try.ord10_14 Try.ord11_9 Try.ord12_4 Try.ord12_5 Try.ord19_1 Try.ord25_2 Try.ord25_3 Try.ord39_5 Try.ord41_1 Try.ord46_1 Try.ord46_5 Try.ord55_5
attribute [go_sem] Try.ord59_3 Try.ord59_11 Try.ord64_4 Try.ord64_15 Try.ord66_16 Try.ord67_3 Try.ord67_5 Try.ord71_1 Try.ord72_1 Try.ord93_1 Try.ord94_1 Try.results0
attribute [go_sem] Try.results1 Try.results2 Try.results3 Try.results4 Try.results5 Try.results6 Try.results7 Try.results8 Try.results9 Try.results10 Try.results11 Try.results12
attribute [go_sem] Try.results13 Try.results14 Try.results15 Try.results16 Try.results17 Try.results18 Try.results19 Try.results20 Try.results21 Try.results22 Try.results23 Try.results24
attribute [go_sem] Try.results25 Try.results26 Try.results27 Try.results28 Try.results29 Try.results30 Try.results31 Try.results32 Try.results33 Try.results34 Try.results35 Try.results36
attribute [go_sem] Try.results37 Try.results38 Try.results39 Try.results40 Try.results41 Try.results42 Try.results43 Try.results44 Try.results45 Try.results46 Try.results47 Try.results48
attribute [go_sem] Try.results49 Try.results50 Try.results51 Try.results52 Try.results53 Try.results54 Try.results55 Try.results56 Try.results57 Try.results58 Try.results59 Try.results60
attribute [go_sem] Try.results61 Try.results62 Try.results63 Try.results64 Try.results65 Try.results66 Try.results67 Try.results68 Try.results69 Try.results70 Try.results71 Try.results72
attribute [go_sem] Try.results73 Try.results74 Try.results75 Try.results76 Try.results77 Try.results78 Try.results79 Try.results80 Try.results81 Try.results82 Try.results83 Try.results84
attribute [go_sem] Try.results85 Try.results86 Try.results87 Try.results88 Try.results89 Try.results90 Try.results91 Try.results92 Try.results93 Try.results94 Try.results95 Try.kp0
attribute [go_sem] Try.kp1 Try.kp2 Try.kp3 Try.kp4 Try.kp5 Try.kp6 Try.kp7 Try.kp8 Try.kp9 Try.kp10 Try.kp11 Try.kp12
attribute [go_sem] Try.kp13 Try.kp14 Try.kp15 Try.kp16 Try.kp17 Try.kp18 Try.kp19 Try.kp20 Try.kp21 Try.kp22 Try.kp23 Try.kp24
attribute [go_sem] Try.kp25 Try.kp26 Try.kp27 Try.kp28 Try.kp29 Try.kp30 Try.kp31 Try.kp32 Try.kp33 Try.kp34 Try.kp35 Try.kp36
attribute [go_sem] Try.kp37 Try.kp38 Try.kp39 Try.kp40 Try.kp41 Try.kp42 Try.kp43 Try.kp44 Try.kp45 Try.kp46 Try.kp47 Try.kp48
attribute [go_sem] Try.kp49 Try.kp50 Try.kp51 Try.kp52 Try.kp53 Try.kp54 Try.kp55 Try.kp56 Try.kp57 Try.kp58 Try.kp59 Try.kp60
attribute [go_sem] Try.kp61 Try.kp62 Try.kp63 Try.kp64 Try.kp65 Try.kp66 Try.kp67 Try.kp68 Try.kp69 Try.kp70 Try.kp71 Try.kp72
attribute [go_sem] Try.kp73 Try.kp74 Try.kp75 Try.kp76 Try.kp77 Try.kp78 Try.kp79 Try.kp80 Try.kp81 Try.kp82 Try.kp83 Try.kp84
attribute [go_sem] Try.kp85 Try.kp86 Try.kp87 Try.kp88 Try.kp89 Try.kp90 Try.kp91 Try.kp92 Try.kp93 Try.kp94 Try.kp95
end Go.Proofs
