/- The rules by which statements are walked, as one set. Written by program. -/
import Derived.Test.YthejgnlikaiddaaDoorEq
namespace Go.Proofs
open Go Go.Mu
attribute [go_sem ↓] ev_nil ev_inBlock ev_inScope ev_inLoop ev_skip ev_label ev_seq ev_block ev_scope ev_condI ev_exitI ev_goto
attribute [go_sem ↓] ev_ret ev_region ev_draw ev_loop evK_eq evOps_nil evOps_plain evOps_guardA evNext_none evNext_some evD_nil evD_consW
attribute [go_sem ↓] evDp_plain evPc_call evDo_plain evDo_guardA evNextD_none evNextD_some evOp_move evOp_assign evOp_pick evOp_build evOp_fieldAddr evOp_field
attribute [go_sem ↓] evOp_index evOp_indexAddr evOp_nilCheck evOp_bin evOp_unOp evOp_convert evOp_makeInterface evOp_makeFunc evOp_extract evOp_typeAssert evOp_slice evOp_len1
attribute [go_sem ↓] evOp_max evOp_min evOp_buildSlice evOp_makeSlice evOp_alloc evOp_box evOp_load evOp_store evOp_append evOp_copy evOp_callF evOp_invokeI
attribute [go_sem ↓] evOp_next evOp_makeMap evOp_lookup evOp_mapUpdate evOp_range ev_rangeI ev_beginI evOp_entry evOp_nextS
attribute [go_sem] evIf_true evIf_false evIf_decide evIf_not exO_some exO_none getO_some guardA_tt guardA_ff guardA_tf guardA_ft guardA_tup
attribute [go_sem] guardB_tt guardB_ff guardB_tf guardB_ft guardB_tup isSelf_nil isSelf_one isSelf_two evDs_true evDs_false callP_some givP_some
attribute [go_sem] nthO_zero nthO_succ recheck_nil recheck_cons reOK_plain callF_fn callF_yield callI_some callM_some callA_eq callO_give callO_none
attribute [go_sem] isInt keyI ne_eq pop hop litOp aeval aevals ofVal ofVal1 ofVals binS_true
attribute [go_sem] binS_false isNilC_tmp isNilC_int isNilC_bool isNilC_str isNilC_nil isNilC_iface isNilC_ptr nilA_eql nilA_neq giveA_some giveB_giveC
attribute [go_sem] giveC_true giveC_false giveC_decide giveC_beq giveC_bne giveC_ndecide giveC_list giveC_listn giveB_int giveB_str giveB_agg giveB_tup
attribute [go_sem] giveB_list giveB_iface giveB_fn give2_some giveR_some retPost_ret retPost_none oneOf_one oneOf_nil oneOf_more resAs resA1
attribute [go_sem] Fr.put Fr.get Fr.anew ins lookA number dstOf_zero dstOf_succ exitTo_block exitTo_code exitTo_loop exitTo_scope
attribute [go_sem] exitTo_nil binA oneA apart litA fillA putAt_cons putAt_set subAt TK.agg lenA lenO
attribute [go_sem] List.getElem?_toArray maxA maxL minA minL intsA hget_at0 hget_at hset_at0 hset_at hset_hset length_hset
attribute [go_sem] appA appB_ff appB_nil appB_cons appB_own appF appV loadV storeV ofCells canonL elSz
attribute [go_sem] canonE nilA_eqlV nilA_neqV List.append_assoc if_true if_false ite_true ite_false dite_true decide_true decide_false Bool.false_eq_true
attribute [go_sem] Bool.true_eq_false true_and and_true false_and and_false true_or or_true false_or or_false not_true_eq_false not_false_eq_true false_implies
attribute [go_sem] true_implies implies_true forall_const and_self Bool.not_true Bool.not_false Bool.true_and Bool.and_true Bool.false_and Bool.and_false Bool.true_or Bool.or_true
attribute [go_sem] Bool.false_or Bool.or_false beq_self_eq_true decide_eq_true_eq decide_eq_false_iff_not Option.isSome_some Option.isSome_none Option.map_some Option.map_none Option.bind_some Option.bind_none Option.some.injEq
attribute [go_sem] List.length_cons List.length_nil List.getElem?_cons_zero List.getElem?_cons_succ List.getElem?_nil List.take_succ_cons List.take_zero List.drop_succ_cons List.drop_zero List.take_nil List.drop_nil List.cons_append
attribute [go_sem] List.nil_append List.append_nil List.length_append List.length_map List.set_cons_zero List.set_cons_succ List.map_cons List.map_nil Nat.zero_add Nat.add_zero ge_iff_le gt_iff_lt
attribute [go_sem] post_app post_nil wk_tup wk_agg wk_int wk_bool wk_str wk_iface wk_list wk1_agg wk1_int wk1_bool
attribute [go_sem] wk1_str wk1_list wk0_int wk0_bool wk0_str wk0_list wkL_nil wkL_cons AV.int.injEq AV.bool.injEq AV.str.injEq upd
attribute [go_sem] List.all_cons List.all_nil eq_self_iff_true and_imp spec1 spec2 spec3 spec4 tI_dec tB_dec tIs_dec tRng_dec
attribute [go_sem] tRd_dec tEar_dec tT_dec tTs_dec decI_int decB_bool decL_ints decL_rng decL_rd decL_t decL_nil decL_cons
attribute [go_sem] decs_cons decs_nil decs_ints decEar decRng decRd decRng_av decRd_av decT_av decT_agg leT leF
attribute [go_sem] ltT ltF eqT eqF nleT nltT wrapI tget Int.cast_ofNat_Int Int.natCast_add Nat.mul_one bne_self_eq_false
attribute [go_sem] idx_nat getElem?_at getElem?_at' set_at set_at' Rd_eta Rng_eta Rd_eta' neqT take_map neqF nltF
attribute [go_sem] cells_bool flat_bool cells_int flat_int cells_str flat_str cells_ptr flat_ptr cells_nilptr flat_nilptr cells_eptr flat_eptr
attribute [go_sem] cells_list flat_list cells_arr flat_arr cells_vec flat_vec cells_vptr flat_vptr cells_map flat_map cells_nilmap flat_nilmap
attribute [go_sem] cells_fn flat_fn cells_yield flat_yield cells_nilfn flat_nilfn cells_iface flat_iface cells_niliface flat_niliface cells_agg flat_agg
attribute [go_sem] putAt_map3 lookI updI lookB lookB2 updB mget_mset Option.getD_some entR nextS_ptr nextSR_it nextSB_some
attribute [go_sem] nextSB_none convS_some convS_none bytesL cvO Tryd.EN Tryd.Ety Tryd.Eord Tryd.EP Tryd.Emt Tryd.Efs Tryd.ty2
attribute [go_sem] Tryd.ty3 Tryd.ty4 Tryd.ty5 Tryd.ty6 Tryd.ty8 Tryd.ty9 Tryd.ty10 Tryd.ty11 Tryd.ty12 Tryd.ty14 Tryd.ty15 Tryd.ty16
attribute [go_sem] Tryd.ty17 Tryd.ty19 Tryd.ty20 Tryd.ty21 Tryd.ty22 Tryd.ty23 Tryd.ty25 Tryd.ty27 Tryd.ty30 Tryd.ty34 Tryd.ty37 Tryd.ty46
attribute [go_sem] Tryd.ty47 Tryd.ty49 Tryd.ty50 Tryd.ty57 Tryd.ty73 Tryd.ty75 Tryd.ty76 Tryd.ty82 Tryd.ty85 Tryd.ty87 Tryd.ty91 Tryd.ty100
attribute [go_sem] Tryd.ty102 Tryd.ty108 Tryd.ty110 Tryd.ty111 Tryd.ty113 Tryd.ty114 Tryd.ty116 Tryd.ty122 Tryd.ty123 Tryd.ty126 Tryd.ty127 Tryd.ty136
attribute [go_sem] Tryd.ty139 Tryd.ty144 Tryd.ty151 Tryd.ty152 Tryd.ty153 Tryd.ty156 Tryd.ty158 Tryd.ty160 Tryd.ty161 Tryd.ty164 Tryd.ty165 Tryd.ty167
attribute [go_sem] Tryd.ty168 Tryd.ty169 Tryd.ty170 Tryd.ty171 Tryd.ty172 Tryd.ty173 Tryd.ty175 Tryd.ord4_10 Tryd.ord4_13 Tryd.ord5_4 Tryd.ord5_10 Tryd.ord5_14
attribute [go_sem] Tryd.ord7_17 Tryd.ord7_21 Tryd.ord7_30 Tryd.ord7_58 Tryd.ord7_61 Tryd.ord8_4 Tryd.ord8_5 Tryd.ord8_13 Tryd.ord8_21 Tryd.ord10_4 Tryd.ord10_5 Tryd.ord10_16
attribute [go_sem] Tryd.ord10_17 Tryd.ord10_21 Tryd.ord10_35 Tryd.ord10_40 Tryd.ord11_5 Tryd.ord11_6 Tryd.ord12_19 Tryd.ord13_26 Tryd.ord13_27 Tryd.ord23_5 Tryd.ord23_7 Tryd.ord23_8
attribute [go_sem] Tryd.ord26_10 Tryd.ord27_5 Tryd.ord30_1 Tryd.ord31_5 Tryd.ord34_5 Tryd.ord38_8 Tryd.ord41_7 Tryd.ord46_1 Tryd.ord48_4 Tryd.ord49_1 Tryd.ord57_1 Tryd.ord58_2
attribute [go_sem] Tryd.ord59_7 Tryd.ord65_1 Tryd.ord85_6 Tryd.ord85_11 Tryd.ord91_6 Tryd.ord93_1 Tryd.ord95_17 Tryd.ord99_7 Tryd.ord99_8 Tryd.ord99_9 Tryd.ord99_10 Tryd.ord99_17
attribute [go_sem] Tryd.ord99_18 Tryd.ord99_23 Tryd.ord101_4 Tryd.ord101_6 Tryd.ord102_10 Tryd.ord103_10 Tryd.ord105_3 Tryd.ord106_5 Tryd.ord106_11 Tryd.ord106_16 Tryd.ord106_17 Tryd.ord106_22
attribute [go_sem] Tryd.ord106_23 Tryd.ord108_1 Tryd.ord108_3 Tryd.ord108_5 Tryd.ord108_8 Tryd.ord109_1 Tryd.ord109_3 Tryd.ord109_5 Tryd.ord109_8 Tryd.ord109_10 Tryd.ord109_13 Tryd.ord109_15
attribute [go_sem] Tryd.ord109_18 Tryd.ord109_21 Tryd.ord116_3 Tryd.ord116_5 Tryd.ord116_6 Tryd.ord118_1 Tryd.ord118_2 Tryd.ord118_3 Tryd.ord124_1 Tryd.results0 Tryd.results1 Tryd.results2
attribute [go_sem] Tryd.results3 Tryd.results4 Tryd.results5 Tryd.results6 Tryd.results7 Tryd.results8 Tryd.results9 Tryd.results10 Tryd.results11 Tryd.results12 Tryd.results13 Tryd.results14
attribute [go_sem] Tryd.results15 Tryd.results16 Tryd.results17 Tryd.results18 Tryd.results19 Tryd.results20 Tryd.results21 Tryd.results22 Tryd.results23 Tryd.results24 Tryd.results25 Tryd.results26
attribute [go_sem] Tryd.results27 Tryd.results28 Tryd.results29 Tryd.results30 Tryd.results31 Tryd.results32 Tryd.results33 Tryd.results34 Tryd.results35 Tryd.results36 Tryd.results37 Tryd.results38
attribute [go_sem] Tryd.results39 Tryd.results40 Tryd.results41 Tryd.results42 Tryd.results43 Tryd.results44 Tryd.results45 Tryd.results46 Tryd.results47 Tryd.results48 Tryd.results49 Tryd.results50
attribute [go_sem] Tryd.results51 Tryd.results52 Tryd.results53 Tryd.results54 Tryd.results55 Tryd.results56 Tryd.results57 Tryd.results58 Tryd.results59 Tryd.results60 Tryd.results61 Tryd.results62
attribute [go_sem] Tryd.results63 Tryd.results64 Tryd.results65 Tryd.results66 Tryd.results67 Tryd.results68 Tryd.results69 Tryd.results70 Tryd.results71 Tryd.results72 Tryd.results73 Tryd.results74
attribute [go_sem] Tryd.results75 Tryd.results76 Tryd.results77 Tryd.results78 Tryd.results79 Tryd.results80 Tryd.results81 Tryd.results82 Tryd.results83 Tryd.results84 Tryd.results85 Tryd.results86
attribute [go_sem] Tryd.results87 Tryd.results88 Tryd.results89 Tryd.results90 Tryd.results91 Tryd.results92 Tryd.results93 Tryd.results94 Tryd.results95 Tryd.results96 Tryd.results97 Tryd.results98
attribute [go_sem] Tryd.results99 Tryd.results100 Tryd.results101 Tryd.results102 Tryd.results103 Tryd.results104 Tryd.results105 Tryd.results106 Tryd.results107 Tryd.results108 Tryd.results109 Tryd.results110
attribute [go_sem] Tryd.results111 Tryd.results112 Tryd.results113 Tryd.results114 Tryd.results115 Tryd.results116 Tryd.results117 Tryd.results118 Tryd.results119 Tryd.results120 Tryd.results121 Tryd.results122
attribute [go_sem] Tryd.results123 Tryd.results124 Tryd.results125 Tryd.results126 Tryd.results127 Tryd.results128 Tryd.results129 Tryd.results130 Tryd.results131 Tryd.results132 Tryd.results133 Tryd.results134
attribute [go_sem] Tryd.results135 Tryd.results136 Tryd.results137 Tryd.results138 Tryd.results139 Tryd.results140 Tryd.results141 Tryd.results142 Tryd.results143 Tryd.results144 Tryd.results145 Tryd.results146
attribute [go_sem] Tryd.results147 Tryd.kp0 Tryd.kp1 Tryd.kp2 Tryd.kp3 Tryd.kp4 Tryd.kp5 Tryd.kp6 Tryd.kp7 Tryd.kp8 Tryd.kp9 Tryd.kp10
attribute [go_sem] Tryd.kp11 Tryd.kp12 Tryd.kp13 Tryd.kp14 Tryd.kp15 Tryd.kp16 Tryd.kp17 Tryd.kp18 Tryd.kp19 Tryd.kp20 Tryd.kp21 Tryd.kp22
attribute [go_sem] Tryd.kp23 Tryd.kp24 Tryd.kp25 Tryd.kp26 Tryd.kp27 Tryd.kp28 Tryd.kp29 Tryd.kp30 Tryd.kp31 Tryd.kp32 Tryd.kp33 Tryd.kp34
attribute [go_sem] Tryd.kp35 Tryd.kp36 Tryd.kp37 Tryd.kp38 Tryd.kp39 Tryd.kp40 Tryd.kp41 Tryd.kp42 Tryd.kp43 Tryd.kp44 Tryd.kp45 Tryd.kp46
attribute [go_sem] Tryd.kp47 Tryd.kp48 Tryd.kp49 Tryd.kp50 Tryd.kp51 Tryd.kp52 Tryd.kp53 Tryd.kp54 Tryd.kp55 Tryd.kp56 Tryd.kp57 Tryd.kp58
attribute [go_sem] Tryd.kp59 Tryd.kp60 Tryd.kp61 Tryd.kp62 Tryd.kp63 Tryd.kp64 Tryd.kp65 Tryd.kp66 Tryd.kp67 Tryd.kp68 Tryd.kp69 Tryd.kp70
attribute [go_sem] Tryd.kp71 Tryd.kp72 Tryd.kp73 Tryd.kp74 Tryd.kp75 Tryd.kp76 Tryd.kp77 Tryd.kp78 Tryd.kp79 Tryd.kp80 Tryd.kp81 Tryd.kp82
attribute [go_sem] Tryd.kp83 Tryd.kp84 Tryd.kp85 Tryd.kp86 Tryd.kp87 Tryd.kp88 Tryd.kp89 Tryd.kp90 Tryd.kp91 Tryd.kp92 Tryd.kp93 Tryd.kp94
attribute [go_sem] Tryd.kp95 Tryd.kp96 Tryd.kp97 Tryd.kp98 Tryd.kp99 Tryd.kp100 Tryd.kp101 Tryd.kp102 Tryd.kp103 Tryd.kp104 Tryd.kp105 Tryd.kp106
attribute [go_sem] Tryd.kp107 Tryd.kp108 Tryd.kp109 Tryd.kp110 Tryd.kp111 Tryd.kp112 Tryd.kp113 Tryd.kp114 Tryd.kp115 Tryd.kp116 Tryd.kp117 Tryd.kp118
attribute [go_sem] Tryd.kp119 Tryd.kp120 Tryd.kp121 Tryd.kp122 Tryd.kp123 Tryd.kp124 Tryd.kp125 Tryd.kp126 Tryd.kp127 Tryd.kp128 Tryd.kp129 Tryd.kp130
attribute [go_sem] Tryd.kp131 Tryd.kp132 Tryd.kp133 Tryd.kp134 Tryd.kp135 Tryd.kp136 Tryd.kp137 Tryd.kp138 Tryd.kp139 Tryd.kp140 Tryd.kp141 Tryd.kp142
attribute [go_sem] Tryd.kp143 Tryd.kp144 Tryd.kp145 Tryd.kp146 Tryd.kp147
end Go.Proofs
