/- The rules by which statements are walked, as one set. Written by program. -/
import Derived.Test.YthejgnlikaiddaaGreatDoorEq
namespace Go.Proofs
open Go Go.Mu
attribute [go_sem ↓] ev_nil ev_inBlock ev_inScope ev_inLoop ev_skip ev_label ev_seq ev_block ev_scope ev_condI ev_exitI ev_goto
attribute [go_sem ↓] ev_ret ev_region ev_draw ev_loop evK_eq evOps_nil evOps_plain evOps_guardA evNext_none evNext_some evD_nil evD_consW
attribute [go_sem ↓] evDp_plain evPc_call evDo_plain evDo_guardA evNextD_none evNextD_some evOp_move evOp_assign evOp_pick evOp_build evOp_fieldAddr evOp_field
attribute [go_sem ↓] evOp_index evOp_indexAddr evOp_nilCheck evOp_bin evOp_unOp evOp_convert evOp_makeInterface evOp_makeFunc evOp_extract evOp_typeAssert evOp_slice evOp_len1
attribute [go_sem ↓] evOp_max evOp_min evOp_buildSlice evOp_makeSlice evOp_alloc evOp_box evOp_load evOp_store evOp_append evOp_copy evOp_callF evOp_invokeI
attribute [go_sem ↓] evOp_next evOp_makeMap evOp_lookup evOp_mapUpdate evOp_range ev_rangeI ev_beginI evOp_entry evOp_nextS
attribute [go_sem] evIf_true evIf_false evIf_decide evIf_not exO_some exO_none getO_some guardA_tt guardA_ff guardA_tf guardA_ft guardA_tup
attribute [go_sem] guardB_tt guardB_ff guardB_tf guardB_ft guardB_tup isSelf_nil isSelf_one isSelf_two evDs_true evDs_false callP_some givP_some
attribute [go_sem] nthO_zero nthO_succ recheck_nil recheck_cons reOK_plain callF_fn callF_yield callI_some callM_some callA_eq callO_give callO_none
attribute [go_sem] isInt keyI ne_eq pop hop litOp aeval aevals ofVal ofVal1 ofVals binS_true
attribute [go_sem] binS_false isNilC_tmp isNilC_int isNilC_bool isNilC_str isNilC_nil isNilC_iface isNilC_ptr nilA_eql nilA_neq giveA_some giveB_giveC
attribute [go_sem] giveC_true giveC_false giveC_decide giveC_beq giveC_bne giveC_ndecide giveC_list giveC_listn giveB_int giveB_str giveB_agg giveB_tup
attribute [go_sem] giveB_list giveB_iface giveB_fn give2_some giveR_some retPost_ret retPost_none oneOf_one oneOf_nil oneOf_more resAs resA1
attribute [go_sem] Fr.put Fr.get Fr.anew ins lookA number dstOf_zero dstOf_succ exitTo_block exitTo_code exitTo_loop exitTo_scope
attribute [go_sem] exitTo_nil binA oneA apart litA fillA putAt_cons putAt_set subAt TK.agg lenA lenO
attribute [go_sem] List.getElem?_toArray maxA maxL minA minL intsA hget_at0 hget_at hset_at0 hset_at hset_hset length_hset
attribute [go_sem] appA appB_ff appB_nil appB_cons appB_own appF appV loadV storeV ofCells canonL elSz
attribute [go_sem] canonE nilA_eqlV nilA_neqV List.append_assoc if_true if_false ite_true ite_false dite_true decide_true decide_false Bool.false_eq_true
attribute [go_sem] Bool.true_eq_false true_and and_true false_and and_false true_or or_true false_or or_false not_true_eq_false not_false_eq_true false_implies
attribute [go_sem] true_implies implies_true forall_const and_self Bool.not_true Bool.not_false Bool.true_and Bool.and_true Bool.false_and Bool.and_false Bool.true_or Bool.or_true
attribute [go_sem] Bool.false_or Bool.or_false beq_self_eq_true decide_eq_true_eq decide_eq_false_iff_not Option.isSome_some Option.isSome_none Option.map_some Option.map_none Option.bind_some Option.bind_none Option.some.injEq
attribute [go_sem] List.length_cons List.length_nil List.getElem?_cons_zero List.getElem?_cons_succ List.getElem?_nil List.take_succ_cons List.take_zero List.drop_succ_cons List.drop_zero List.take_nil List.drop_nil List.cons_append
attribute [go_sem] List.nil_append List.append_nil List.length_append List.length_map List.set_cons_zero List.set_cons_succ List.map_cons List.map_nil Nat.zero_add Nat.add_zero ge_iff_le gt_iff_lt
attribute [go_sem] post_app post_nil wk_tup wk_agg wk_int wk_bool wk_str wk_iface wk_list wk1_agg wk1_int wk1_bool
attribute [go_sem] wk1_str wk1_list wk0_int wk0_bool wk0_str wk0_list wkL_nil wkL_cons AV.int.injEq AV.bool.injEq AV.str.injEq upd
attribute [go_sem] List.all_cons List.all_nil eq_self_iff_true and_imp spec1 spec2 spec3 spec4 tI_dec tB_dec tIs_dec tRng_dec
attribute [go_sem] tRd_dec tEar_dec tT_dec tTs_dec decI_int decB_bool decL_ints decL_rng decL_rd decL_t decL_nil decL_cons
attribute [go_sem] decs_cons decs_nil decs_ints decEar decRng decRd decRng_av decRd_av decT_av decT_agg leT leF
attribute [go_sem] ltT ltF eqT eqF nleT nltT wrapI tget Int.cast_ofNat_Int Int.natCast_add Nat.mul_one bne_self_eq_false
attribute [go_sem] idx_nat getElem?_at getElem?_at' set_at set_at' Rd_eta Rng_eta Rd_eta' neqT take_map neqF nltF
attribute [go_sem] cells_bool flat_bool cells_int flat_int cells_str flat_str cells_ptr flat_ptr cells_nilptr flat_nilptr cells_eptr flat_eptr
attribute [go_sem] cells_list flat_list cells_arr flat_arr cells_vec flat_vec cells_vptr flat_vptr cells_map flat_map cells_nilmap flat_nilmap
attribute [go_sem] cells_fn flat_fn cells_yield flat_yield cells_nilfn flat_nilfn cells_iface flat_iface cells_niliface flat_niliface cells_agg flat_agg
attribute [go_sem] putAt_map3 lookI updI lookB lookB2 updB mget_mset Option.getD_some entR nextS_ptr nextSR_it nextSB_some
attribute [go_sem] nextSB_none convS_some convS_none bytesL cvO Tryz.EN Tryz.Ety Tryz.Eord Tryz.EP Tryz.Emt Tryz.Efs Tryz.ty2
attribute [go_sem] Tryz.ty3 Tryz.ty4 Tryz.ty5 Tryz.ty6 Tryz.ty8 Tryz.ty9 Tryz.ty10 Tryz.ty11 Tryz.ty12 Tryz.ty14 Tryz.ty15 Tryz.ty16
attribute [go_sem] Tryz.ty17 Tryz.ty19 Tryz.ty20 Tryz.ty21 Tryz.ty22 Tryz.ty24 Tryz.ty25 Tryz.ty27 Tryz.ty30 Tryz.ty31 Tryz.ty36 Tryz.ty37
attribute [go_sem] Tryz.ty52 Tryz.ty61 Tryz.ty63 Tryz.ty66 Tryz.ty74 Tryz.ty78 Tryz.ty80 Tryz.ty82 Tryz.ty91 Tryz.ty92 Tryz.ty109 Tryz.ty111
attribute [go_sem] Tryz.ty112 Tryz.ty115 Tryz.ty117 Tryz.ty118 Tryz.ty120 Tryz.ty124 Tryz.ty126 Tryz.ty131 Tryz.ty134 Tryz.ty135 Tryz.ty139 Tryz.ty145
attribute [go_sem] Tryz.ty148 Tryz.ty152 Tryz.ty158 Tryz.ty160 Tryz.ty163 Tryz.ty166 Tryz.ty169 Tryz.ty170 Tryz.ty171 Tryz.ty173 Tryz.ty174 Tryz.ty177
attribute [go_sem] Tryz.ty178 Tryz.ty180 Tryz.ty181 Tryz.ty182 Tryz.ty183 Tryz.ty184 Tryz.ty185 Tryz.ty186 Tryz.ty188 Tryz.ord3_7 Tryz.ord3_9 Tryz.ord3_11
attribute [go_sem] Tryz.ord3_13 Tryz.ord3_14 Tryz.ord4_7 Tryz.ord4_9 Tryz.ord4_11 Tryz.ord4_13 Tryz.ord4_14 Tryz.ord5_7 Tryz.ord5_9 Tryz.ord5_11 Tryz.ord5_13 Tryz.ord5_14
attribute [go_sem] Tryz.ord6_7 Tryz.ord6_9 Tryz.ord6_11 Tryz.ord6_12 Tryz.ord9_6 Tryz.ord10_7 Tryz.ord19_10 Tryz.ord22_5 Tryz.ord23_5 Tryz.ord24_5 Tryz.ord26_5 Tryz.ord27_4
attribute [go_sem] Tryz.ord27_8 Tryz.ord29_8 Tryz.ord29_9 Tryz.ord30_1 Tryz.ord33_12 Tryz.ord39_8 Tryz.ord40_8 Tryz.ord44_5 Tryz.ord44_6 Tryz.ord45_19 Tryz.ord46_26 Tryz.ord46_27
attribute [go_sem] Tryz.ord54_5 Tryz.ord59_13 Tryz.ord62_5 Tryz.ord69_9 Tryz.ord71_1 Tryz.ord71_2 Tryz.ord72_4 Tryz.ord73_1 Tryz.ord76_9 Tryz.ord76_10 Tryz.ord78_1 Tryz.ord79_2
attribute [go_sem] Tryz.ord80_7 Tryz.ord88_6 Tryz.ord88_11 Tryz.ord95_1 Tryz.ord97_6 Tryz.ord97_11 Tryz.ord100_4 Tryz.ord103_5 Tryz.ord105_5 Tryz.ord108_17 Tryz.ord111_6 Tryz.ord113_1
attribute [go_sem] Tryz.ord116_4 Tryz.ord116_6 Tryz.ord117_10 Tryz.ord118_10 Tryz.ord120_3 Tryz.ord121_5 Tryz.ord121_11 Tryz.ord121_16 Tryz.ord121_17 Tryz.ord121_22 Tryz.ord121_23 Tryz.ord123_1
attribute [go_sem] Tryz.ord123_3 Tryz.ord123_5 Tryz.ord123_8 Tryz.ord124_1 Tryz.ord124_3 Tryz.ord124_5 Tryz.ord124_8 Tryz.ord124_10 Tryz.ord124_13 Tryz.ord124_15 Tryz.ord124_18 Tryz.ord124_21
attribute [go_sem] Tryz.ord129_7 Tryz.ord129_8 Tryz.ord129_9 Tryz.ord129_10 Tryz.ord129_17 Tryz.ord129_18 Tryz.ord129_23 Tryz.ord131_3 Tryz.ord131_5 Tryz.ord131_6 Tryz.ord133_1 Tryz.ord133_2
attribute [go_sem] Tryz.ord133_3 Tryz.ord141_1 Tryz.results0 Tryz.results1 Tryz.results2 Tryz.results3 Tryz.results4 Tryz.results5 Tryz.results6 Tryz.results7 Tryz.results8 Tryz.results9
attribute [go_sem] Tryz.results10 Tryz.results11 Tryz.results12 Tryz.results13 Tryz.results14 Tryz.results15 Tryz.results16 Tryz.results17 Tryz.results18 Tryz.results19 Tryz.results20 Tryz.results21
attribute [go_sem] Tryz.results22 Tryz.results23 Tryz.results24 Tryz.results25 Tryz.results26 Tryz.results27 Tryz.results28 Tryz.results29 Tryz.results30 Tryz.results31 Tryz.results32 Tryz.results33
attribute [go_sem] Tryz.results34 Tryz.results35 Tryz.results36 Tryz.results37 Tryz.results38 Tryz.results39 Tryz.results40 Tryz.results41 Tryz.results42 Tryz.results43 Tryz.results44 Tryz.results45
attribute [go_sem] Tryz.results46 Tryz.results47 Tryz.results48 Tryz.results49 Tryz.results50 Tryz.results51 Tryz.results52 Tryz.results53 Tryz.results54 Tryz.results55 Tryz.results56 Tryz.results57
attribute [go_sem] Tryz.results58 Tryz.results59 Tryz.results60 Tryz.results61 Tryz.results62 Tryz.results63 Tryz.results64 Tryz.results65 Tryz.results66 Tryz.results67 Tryz.results68 Tryz.results69
attribute [go_sem] Tryz.results70 Tryz.results71 Tryz.results72 Tryz.results73 Tryz.results74 Tryz.results75 Tryz.results76 Tryz.results77 Tryz.results78 Tryz.results79 Tryz.results80 Tryz.results81
attribute [go_sem] Tryz.results82 Tryz.results83 Tryz.results84 Tryz.results85 Tryz.results86 Tryz.results87 Tryz.results88 Tryz.results89 Tryz.results90 Tryz.results91 Tryz.results92 Tryz.results93
attribute [go_sem] Tryz.results94 Tryz.results95 Tryz.results96 Tryz.results97 Tryz.results98 Tryz.results99 Tryz.results100 Tryz.results101 Tryz.results102 Tryz.results103 Tryz.results104 Tryz.results105
attribute [go_sem] Tryz.results106 Tryz.results107 Tryz.results108 Tryz.results109 Tryz.results110 Tryz.results111 Tryz.results112 Tryz.results113 Tryz.results114 Tryz.results115 Tryz.results116 Tryz.results117
attribute [go_sem] Tryz.results118 Tryz.results119 Tryz.results120 Tryz.results121 Tryz.results122 Tryz.results123 Tryz.results124 Tryz.results125 Tryz.results126 Tryz.results127 Tryz.results128 Tryz.results129
attribute [go_sem] Tryz.results130 Tryz.results131 Tryz.results132 Tryz.results133 Tryz.results134 Tryz.results135 Tryz.results136 Tryz.results137 Tryz.results138 Tryz.results139 Tryz.results140 Tryz.results141
attribute [go_sem] Tryz.results142 Tryz.results143 Tryz.results144 Tryz.results145 Tryz.results146 Tryz.results147 Tryz.results148 Tryz.results149 Tryz.results150 Tryz.results151 Tryz.results152 Tryz.results153
attribute [go_sem] Tryz.results154 Tryz.results155 Tryz.results156 Tryz.results157 Tryz.results158 Tryz.results159 Tryz.results160 Tryz.results161 Tryz.results162 Tryz.results163 Tryz.results164 Tryz.results165
attribute [go_sem] Tryz.results166 Tryz.kp0 Tryz.kp1 Tryz.kp2 Tryz.kp3 Tryz.kp4 Tryz.kp5 Tryz.kp6 Tryz.kp7 Tryz.kp8 Tryz.kp9 Tryz.kp10
attribute [go_sem] Tryz.kp11 Tryz.kp12 Tryz.kp13 Tryz.kp14 Tryz.kp15 Tryz.kp16 Tryz.kp17 Tryz.kp18 Tryz.kp19 Tryz.kp20 Tryz.kp21 Tryz.kp22
attribute [go_sem] Tryz.kp23 Tryz.kp24 Tryz.kp25 Tryz.kp26 Tryz.kp27 Tryz.kp28 Tryz.kp29 Tryz.kp30 Tryz.kp31 Tryz.kp32 Tryz.kp33 Tryz.kp34
attribute [go_sem] Tryz.kp35 Tryz.kp36 Tryz.kp37 Tryz.kp38 Tryz.kp39 Tryz.kp40 Tryz.kp41 Tryz.kp42 Tryz.kp43 Tryz.kp44 Tryz.kp45 Tryz.kp46
attribute [go_sem] Tryz.kp47 Tryz.kp48 Tryz.kp49 Tryz.kp50 Tryz.kp51 Tryz.kp52 Tryz.kp53 Tryz.kp54 Tryz.kp55 Tryz.kp56 Tryz.kp57 Tryz.kp58
attribute [go_sem] Tryz.kp59 Tryz.kp60 Tryz.kp61 Tryz.kp62 Tryz.kp63 Tryz.kp64 Tryz.kp65 Tryz.kp66 Tryz.kp67 Tryz.kp68 Tryz.kp69 Tryz.kp70
attribute [go_sem] Tryz.kp71 Tryz.kp72 Tryz.kp73 Tryz.kp74 Tryz.kp75 Tryz.kp76 Tryz.kp77 Tryz.kp78 Tryz.kp79 Tryz.kp80 Tryz.kp81 Tryz.kp82
attribute [go_sem] Tryz.kp83 Tryz.kp84 Tryz.kp85 Tryz.kp86 Tryz.kp87 Tryz.kp88 Tryz.kp89 Tryz.kp90 Tryz.kp91 Tryz.kp92 Tryz.kp93 Tryz.kp94
attribute [go_sem] Tryz.kp95 Tryz.kp96 Tryz.kp97 Tryz.kp98 Tryz.kp99 Tryz.kp100 Tryz.kp101 Tryz.kp102 Tryz.kp103 Tryz.kp104 Tryz.kp105 Tryz.kp106
attribute [go_sem] Tryz.kp107 Tryz.kp108 Tryz.kp109 Tryz.kp110 Tryz.kp111 Tryz.kp112 Tryz.kp113 Tryz.kp114 Tryz.kp115 Tryz.kp116 Tryz.kp117 Tryz.kp118
attribute [go_sem] Tryz.kp119 Tryz.kp120 Tryz.kp121 Tryz.kp122 Tryz.kp123 Tryz.kp124 Tryz.kp125 Tryz.kp126 Tryz.kp127 Tryz.kp128 Tryz.kp129 Tryz.kp130
attribute [go_sem] Tryz.kp131 Tryz.kp132 Tryz.kp133 Tryz.kp134 Tryz.kp135 Tryz.kp136 Tryz.kp137 Tryz.kp138 Tryz.kp139 Tryz.kp140 Tryz.kp141 Tryz.kp142
attribute [go_sem] Tryz.kp143 Tryz.kp144 Tryz.kp145 Tryz.kp146 Tryz.kp147 Tryz.kp148 Tryz.kp149 Tryz.kp150 Tryz.kp151 Tryz.kp152 Tryz.kp153 Tryz.kp154
attribute [go_sem] Tryz.kp155 Tryz.kp156 Tryz.kp157 Tryz.kp158 Tryz.kp159 Tryz.kp160 Tryz.kp161 Tryz.kp162 Tryz.kp163 Tryz.kp164 Tryz.kp165 Tryz.kp166
end Go.Proofs
