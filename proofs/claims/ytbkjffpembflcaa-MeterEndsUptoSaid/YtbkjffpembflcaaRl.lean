/- The rules by which statements are walked, as one set. Written by program. -/
import Derived.Test.YtbkjffpembflcaaEq
namespace Go.Proofs
open Go Go.Mu
attribute [go_sem ↓] ev_nil ev_inBlock ev_inScope ev_inLoop ev_skip ev_label ev_seq ev_block ev_scope ev_condI ev_exitI ev_goto
attribute [go_sem ↓] ev_ret ev_region ev_draw ev_loop evK_eq evOps_nil evOps_plain evOps_guardA evNext_none evNext_some evD_nil evD_consW
attribute [go_sem ↓] evDp_plain evPc_call evDo_plain evDo_guardA evNextD_none evNextD_some evOp_move evOp_assign evOp_pick evOp_build evOp_fieldAddr evOp_field
attribute [go_sem ↓] evOp_index evOp_indexAddr evOp_nilCheck evOp_bin evOp_unOp evOp_convert evOp_makeInterface evOp_makeFunc evOp_extract evOp_typeAssert evOp_slice evOp_len1
attribute [go_sem ↓] evOp_max evOp_min evOp_buildSlice evOp_makeSlice evOp_alloc evOp_box evOp_load evOp_store evOp_append evOp_callF evOp_invokeI evOp_next
attribute [go_sem ↓] evOp_makeMap evOp_lookup evOp_mapUpdate evOp_range ev_rangeI ev_beginI evOp_entry
attribute [go_sem] evIf_true evIf_false evIf_decide evIf_not exO_some exO_none getO_some guardA_tt guardA_ff guardA_tf guardA_ft guardA_tup
attribute [go_sem] guardB_tt guardB_ff guardB_tf guardB_ft guardB_tup isSelf_nil isSelf_one isSelf_two evDs_true evDs_false callP_some givP_some
attribute [go_sem] nthO_zero nthO_succ recheck_nil recheck_cons reOK_plain callF_fn callF_yield callI_some callM_some callA_eq callO_give callO_none
attribute [go_sem] isInt keyI ne_eq pop hop litOp aeval aevals ofVal ofVal1 ofVals binS_true
attribute [go_sem] binS_false isNilC_tmp isNilC_int isNilC_bool isNilC_str isNilC_nil isNilC_iface isNilC_ptr nilA_eql nilA_neq giveA_some giveB_giveC
attribute [go_sem] giveC_true giveC_false giveC_decide giveC_beq giveC_bne giveC_ndecide giveC_list giveC_listn giveB_int giveB_str giveB_agg giveB_tup
attribute [go_sem] giveB_list giveB_iface giveB_fn give2_some giveR_some retPost_ret retPost_none oneOf_one oneOf_nil oneOf_more resAs resA1
attribute [go_sem] Fr.put Fr.get Fr.anew ins lookA number dstOf_zero dstOf_succ exitTo_block exitTo_code exitTo_loop exitTo_scope
attribute [go_sem] exitTo_nil binA apart litA fillA putAt_cons putAt_set subAt TK.agg lenA lenO List.getElem?_toArray
attribute [go_sem] maxA maxL minA minL intsA hget_at0 hget_at hset_at0 hset_at hset_hset length_hset appA
attribute [go_sem] appB_ff appB_nil appB_cons appB_own appF appV loadV storeV ofCells canonL elSz canonE
attribute [go_sem] nilA_eqlV nilA_neqV List.append_assoc if_true if_false ite_true ite_false dite_true decide_true decide_false Bool.false_eq_true Bool.true_eq_false
attribute [go_sem] true_and and_true false_and and_false true_or or_true false_or or_false not_true_eq_false not_false_eq_true false_implies true_implies
attribute [go_sem] implies_true forall_const and_self Bool.not_true Bool.not_false Bool.true_and Bool.and_true Bool.false_and Bool.and_false Bool.true_or Bool.or_true Bool.false_or
attribute [go_sem] Bool.or_false beq_self_eq_true decide_eq_true_eq decide_eq_false_iff_not Option.isSome_some Option.isSome_none Option.map_some Option.map_none Option.bind_some Option.bind_none Option.some.injEq List.length_cons
attribute [go_sem] List.length_nil List.getElem?_cons_zero List.getElem?_cons_succ List.getElem?_nil List.take_succ_cons List.take_zero List.drop_succ_cons List.drop_zero List.take_nil List.drop_nil List.cons_append List.nil_append
attribute [go_sem] List.append_nil List.length_append List.length_map List.set_cons_zero List.set_cons_succ List.map_cons List.map_nil Nat.zero_add Nat.add_zero ge_iff_le gt_iff_lt post_app
attribute [go_sem] post_nil wk_tup wk_agg wk_int wk_bool wk_str wk_iface wk_list wk1_agg wk1_int wk1_bool wk1_str
attribute [go_sem] wk1_list wk0_int wk0_bool wk0_str wk0_list wkL_nil wkL_cons AV.int.injEq AV.bool.injEq AV.str.injEq upd List.all_cons
attribute [go_sem] List.all_nil eq_self_iff_true and_imp spec1 spec2 spec3 spec4 tI_dec tB_dec tIs_dec tRng_dec tRd_dec
attribute [go_sem] tEar_dec tT_dec tTs_dec decI_int decB_bool decL_ints decL_rng decL_rd decL_t decL_nil decL_cons decs_cons
attribute [go_sem] decs_nil decs_ints decEar decRng decRd decRng_av decRd_av decT_av decT_agg leT leF ltT
attribute [go_sem] ltF eqT eqF nleT nltT wrapI tget Int.cast_ofNat_Int Int.natCast_add Nat.mul_one bne_self_eq_false idx_nat
attribute [go_sem] getElem?_at getElem?_at' set_at set_at' Rd_eta Rng_eta Rd_eta' neqT take_map neqF nltF cells_bool
attribute [go_sem] flat_bool cells_int flat_int cells_str flat_str cells_ptr flat_ptr cells_nilptr flat_nilptr cells_eptr flat_eptr cells_list
attribute [go_sem] flat_list cells_arr flat_arr cells_vec flat_vec cells_vptr flat_vptr cells_map flat_map cells_nilmap flat_nilmap cells_fn
attribute [go_sem] flat_fn cells_yield flat_yield cells_nilfn flat_nilfn cells_iface flat_iface cells_niliface flat_niliface cells_agg flat_agg putAt_map3
attribute [go_sem] lookI updI lookB lookB2 updB mget_mset Option.getD_some entR Try.EN Try.Ety Try.Eord Try.EP
attribute [go_sem] Try.Emt Try.Efs Try.ty2 Try.ty3 Try.ty4 Try.ty5 Try.ty6 Try.ty8 Try.ty9 Try.ty10 Try.ty11 Try.ty12
attribute [go_sem] Try.ty14 Try.ty15 Try.ty16 Try.ty17 Try.ty19 Try.ty20 Try.ty22 Try.ty23 Try.ty25 Try.ty27 Try.ty28 Try.ty31
attribute [go_sem] Try.ty35 Try.ty39 Try.ty42 Try.ty50 Try.ty54 Try.ty58 Try.ty66 Try.ty93 Try.ty95 Try.ty96 Try.ty100 Try.ty104
attribute [go_sem] Try.ty106 Try.ty110 Try.ty111 Try.ty116 Try.ty118 Try.ty124 Try.ty131 Try.ty133 Try.ty134 Try.ty140 Try.ty141 Try.ty146
attribute [go_sem] Try.ty148 Try.ty149 Try.ty154 Try.ty156 Try.ty157 Try.ty158 Try.ty159 Try.ty164 Try.ty170 Try.ty178 Try.ty180 Try.ty183
attribute [go_sem] Try.ty186 Try.ty190 Try.ty191 Try.ty193 Try.ty195 Try.ty196 Try.ty197 Try.ty198 Try.ty199 Try.ty200 Try.ty202 Try.ord3_6
attribute [go_sem] Try.ord3_10 Try.ord3_11 Try.ord3_12 Try.ord3_13 Try.ord3_14 Try.ord3_15 Try.ord4_17 Try.ord4_22 Try.ord5_15 Try.ord5_24 Try.ord5_33 Try.ord6_10
attribute [go_sem] Try.ord6_11 Try.ord6_19 Try.ord7_14 Try.ord7_29 Try.ord7_37 Try.ord7_47 Try.ord8_6 Try.ord8_11 Try.ord8_12 Try.ord8_13 Try.ord8_14 Try.ord8_15
attribute [go_sem] Try.ord8_16 Try.ord8_17 Try.ord9_5 Try.ord9_9 Try.ord9_10 Try.ord9_11 Try.ord9_12 Try.ord9_13 Try.ord9_15 Try.ord9_16 Try.ord10_6 Try.ord10_25
attribute [go_sem] Try.ord11_17 Try.ord12_5 Try.ord12_10 Try.ord12_23 Try.ord12_38 Try.ord13_10 Try.ord13_17 Try.ord13_30 Try.ord14_9 Try.ord15_6 Try.ord16_5 Try.ord16_6
attribute [go_sem] Try.ord17_9 Try.ord17_13 Try.ord21_1 Try.ord25_11 Try.ord26_13 Try.ord27_5 Try.ord28_5 Try.ord31_1 Try.ord33_18 Try.ord34_12 Try.ord34_14 Try.ord34_9
attribute [go_sem] Try.ord34_16 Try.ord34_30 Try.ord36_1 Try.ord37_4 Try.ord44_1 Try.ord45_11 Try.ord47_13 Try.ord48_2 Try.ord48_8 Try.ord48_14 Try.ord49_9 Try.ord50_9
attribute [go_sem] Try.ord52_11 Try.ord52_15 Try.ord58_8 Try.ord58_9 Try.ord61_12 Try.ord65_1 Try.ord66_1 Try.ord67_13 Try.ord67_20 Try.ord72_5 Try.ord79_1 Try.ord79_5
attribute [go_sem] Try.ord82_10 Try.ord83_1 Try.ord83_5 Try.ord91_10 Try.ord92_11 Try.ord96_1 Try.ord98_5 Try.ord98_6 Try.ord98_11 Try.ord102_1 Try.ord103_1 Try.ord107_5
attribute [go_sem] Try.ord108_5 Try.ord110_1 Try.ord113_1 Try.ord114_1 Try.ord121_8 Try.ord126_4 Try.ord126_15 Try.ord127_4 Try.ord129_1 Try.ord141_17 Try.ord143_1 Try.ord144_3
attribute [go_sem] Try.ord144_6 Try.ord144_7 Try.ord149_6 Try.ord151_4 Try.ord151_6 Try.ord152_10 Try.ord153_10 Try.ord155_3 Try.ord156_5 Try.ord156_11 Try.ord156_16 Try.ord156_17
attribute [go_sem] Try.ord156_22 Try.ord156_23 Try.ord158_1 Try.ord158_3 Try.ord158_5 Try.ord158_8 Try.ord159_1 Try.ord159_3 Try.ord159_5 Try.ord159_8 Try.ord159_10 Try.ord159_13
attribute [go_sem] Try.ord159_15 Try.ord159_18 Try.ord159_21 Try.ord162_3 Try.ord162_5 Try.ord162_6 Try.ord164_1 Try.ord164_2 Try.ord164_3 Try.ord168_1 Try.ord185_1 Try.ord186_1
attribute [go_sem] Try.results0 Try.results1 Try.results2 Try.results3 Try.results4 Try.results5 Try.results6 Try.results7 Try.results8 Try.results9 Try.results10 Try.results11
attribute [go_sem] Try.results12 Try.results13 Try.results14 Try.results15 Try.results16 Try.results17 Try.results18 Try.results19 Try.results20 Try.results21 Try.results22 Try.results23
attribute [go_sem] Try.results24 Try.results25 Try.results26 Try.results27 Try.results28 Try.results29 Try.results30 Try.results31 Try.results32 Try.results33 Try.results34 Try.results35
attribute [go_sem] Try.results36 Try.results37 Try.results38 Try.results39 Try.results40 Try.results41 Try.results42 Try.results43 Try.results44 Try.results45 Try.results46 Try.results47
attribute [go_sem] Try.results48 Try.results49 Try.results50 Try.results51 Try.results52 Try.results53 Try.results54 Try.results55 Try.results56 Try.results57 Try.results58 Try.results59
attribute [go_sem] Try.results60 Try.results61 Try.results62 Try.results63 Try.results64 Try.results65 Try.results66 Try.results67 Try.results68 Try.results69 Try.results70 Try.results71
attribute [go_sem] Try.results72 Try.results73 Try.results74 Try.results75 Try.results76 Try.results77 Try.results78 Try.results79 Try.results80 Try.results81 Try.results82 Try.results83
attribute [go_sem] Try.results84 Try.results85 Try.results86 Try.results87 Try.results88 Try.results89 Try.results90 Try.results91 Try.results92 Try.results93 Try.results94 Try.results95
attribute [go_sem] Try.results96 Try.results97 Try.results98 Try.results99 Try.results100 Try.results101 Try.results102 Try.results103 Try.results104 Try.results105 Try.results106 Try.results107
attribute [go_sem] Try.results108 Try.results109 Try.results110 Try.results111 Try.results112 Try.results113 Try.results114 Try.results115 Try.results116 Try.results117 Try.results118 Try.results119
attribute [go_sem] Try.results120 Try.results121 Try.results122 Try.results123 Try.results124 Try.results125 Try.results126 Try.results127 Try.results128 Try.results129 Try.results130 Try.results131
attribute [go_sem] Try.results132 Try.results133 Try.results134 Try.results135 Try.results136 Try.results137 Try.results138 Try.results139 Try.results140 Try.results141 Try.results142 Try.results143
attribute [go_sem] Try.results144 Try.results145 Try.results146 Try.results147 Try.results148 Try.results149 Try.results150 Try.results151 Try.results152 Try.results153 Try.results154 Try.results155
attribute [go_sem] Try.results156 Try.results157 Try.results158 Try.results159 Try.results160 Try.results161 Try.results162 Try.results163 Try.results164 Try.results165 Try.results166 Try.results167
attribute [go_sem] Try.results168 Try.results169 Try.results170 Try.results171 Try.results172 Try.results173 Try.results174 Try.results175 Try.results176 Try.results177 Try.results178 Try.results179
attribute [go_sem] Try.results180 Try.results181 Try.results182 Try.results183 Try.results184 Try.results185 Try.results186 Try.results187 Try.kp0 Try.kp1 Try.kp2 Try.kp3
attribute [go_sem] Try.kp4 Try.kp5 Try.kp6 Try.kp7 Try.kp8 Try.kp9 Try.kp10 Try.kp11 Try.kp12 Try.kp13 Try.kp14 Try.kp15
attribute [go_sem] Try.kp16 Try.kp17 Try.kp18 Try.kp19 Try.kp20 Try.kp21 Try.kp22 Try.kp23 Try.kp24 Try.kp25 Try.kp26 Try.kp27
attribute [go_sem] Try.kp28 Try.kp29 Try.kp30 Try.kp31 Try.kp32 Try.kp33 Try.kp34 Try.kp35 Try.kp36 Try.kp37 Try.kp38 Try.kp39
attribute [go_sem] Try.kp40 Try.kp41 Try.kp42 Try.kp43 Try.kp44 Try.kp45 Try.kp46 Try.kp47 Try.kp48 Try.kp49 Try.kp50 Try.kp51
attribute [go_sem] Try.kp52 Try.kp53 Try.kp54 Try.kp55 Try.kp56 Try.kp57 Try.kp58 Try.kp59 Try.kp60 Try.kp61 Try.kp62 Try.kp63
attribute [go_sem] Try.kp64 Try.kp65 Try.kp66 Try.kp67 Try.kp68 Try.kp69 Try.kp70 Try.kp71 Try.kp72 Try.kp73 Try.kp74 Try.kp75
attribute [go_sem] Try.kp76 Try.kp77 Try.kp78 Try.kp79 Try.kp80 Try.kp81 Try.kp82 Try.kp83 Try.kp84 Try.kp85 Try.kp86 Try.kp87
attribute [go_sem] Try.kp88 Try.kp89 Try.kp90 Try.kp91 Try.kp92 Try.kp93 Try.kp94 Try.kp95 Try.kp96 Try.kp97 Try.kp98 Try.kp99
attribute [go_sem] Try.kp100 Try.kp101 Try.kp102 Try.kp103 Try.kp104 Try.kp105 Try.kp106 Try.kp107 Try.kp108 Try.kp109 Try.kp110 Try.kp111
attribute [go_sem] Try.kp112 Try.kp113 Try.kp114 Try.kp115 Try.kp116 Try.kp117 Try.kp118 Try.kp119 Try.kp120 Try.kp121 Try.kp122 Try.kp123
attribute [go_sem] Try.kp124 Try.kp125 Try.kp126 Try.kp127 Try.kp128 Try.kp129 Try.kp130 Try.kp131 Try.kp132 Try.kp133 Try.kp134 Try.kp135
attribute [go_sem] Try.kp136 Try.kp137 Try.kp138 Try.kp139 Try.kp140 Try.kp141 Try.kp142 Try.kp143 Try.kp144 Try.kp145 Try.kp146 Try.kp147
attribute [go_sem] Try.kp148 Try.kp149 Try.kp150 Try.kp151 Try.kp152 Try.kp153 Try.kp154 Try.kp155 Try.kp156 Try.kp157 Try.kp158 Try.kp159
attribute [go_sem] Try.kp160 Try.kp161 Try.kp162 Try.kp163 Try.kp164 Try.kp165 Try.kp166 Try.kp167 Try.kp168 Try.kp169 Try.kp170 Try.kp171
attribute [go_sem] Try.kp172 Try.kp173 Try.kp174 Try.kp175 Try.kp176 Try.kp177 Try.kp178 Try.kp179 Try.kp180 Try.kp181 Try.kp182 Try.kp183
attribute [go_sem] Try.kp184 Try.kp185 Try.kp186 Try.kp187
end Go.Proofs
