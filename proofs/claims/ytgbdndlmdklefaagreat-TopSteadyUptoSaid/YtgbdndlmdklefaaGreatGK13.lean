/- The rules by which statements are walked, as one set. Written by program. -/
import Derived.Test.YtgbdndlmdklefaaGreatGK12
namespace Go.Proofs
open Go Go.Mu
attribute [go_sem ↓] ev_nil ev_inBlock ev_inScope ev_inLoop ev_skip ev_label ev_seq ev_block ev_scope ev_condI ev_exitI ev_goto
attribute [go_sem ↓] ev_ret ev_region ev_draw ev_loop evK_eq evOps_nil evOps_plain evOps_guardA evNext_none evNext_some evD_nil evD_consW
attribute [go_sem ↓] evDp_plain evPc_call evDo_plain evDo_guardA evNextD_none evNextD_some evOp_move evOp_assign evOp_pick evOp_build evOp_fieldAddr
attribute [go_sem ↓] evOp_index evOp_indexAddr evOp_nilCheck evOp_bin evOp_unOp evOp_convert evOp_makeInterface evOp_makeFunc evOp_extract evOp_typeAssert evOp_slice evOp_len1
attribute [go_sem ↓] evOp_max evOp_min evOp_buildSlice evOp_makeSlice evOp_alloc evOp_box evOp_load evOp_store evOp_append evOp_callF evOp_invokeI
attribute [go_sem ↓] evOp_next evOp_makeMap evOp_lookup evOp_mapUpdate evOp_range ev_rangeI ev_beginI evOp_entry
attribute [go_sem] evIf_true evIf_false exO_some exO_none getO_some guardA_tt guardA_ff guardA_tf guardA_ft
attribute [go_sem] guardB_tt guardB_ft isSelf_nil isSelf_one isSelf_two evDs_true evDs_false callP_some givP_some
attribute [go_sem] nthO_zero nthO_succ recheck_nil recheck_cons reOK_plain callF_fn callF_yield callI_some callM_some callA_eq callO_give callO_none
attribute [go_sem] isInt isStrK keyOK ne_eq pop hop litOp aeval aevals ofVal ofVal1
attribute [go_sem] ofVals binS_true binS_false isNilC_tmp isNilC_int isNilC_bool isNilC_str isNilC_nil isNilC_iface isNilC_ptr nilA_eql nilA_neq
attribute [go_sem] giveA_some giveB_giveC giveC_true giveC_false giveC_decide giveC_beq giveC_bne giveC_ndecide giveC_list giveB_int giveB_str
attribute [go_sem] giveB_agg giveB_tup giveB_list giveB_iface giveB_fn give2_some giveR_some retPost_ret retPost_none oneOf_one oneOf_nil oneOf_more
attribute [go_sem] resAs resA1 Fr.put Fr.get Fr.anew ins lookA number dstOf_zero dstOf_succ exitTo_block exitTo_code
attribute [go_sem] exitTo_loop exitTo_scope exitTo_nil binA oneA apart litA fillA putAt_cons putAt_set subAt TK.agg
attribute [go_sem] lenA lenO List.getElem?_toArray maxA maxL minA minL intsA hget_at0 hget_at hset_at0 hset_at
attribute [go_sem] hset_hset length_hset appA appB_ff appB_nil appB_cons appB_own appF appV loadV storeV ofCells
attribute [go_sem] canonL elSz canonE nilA_eqlV nilA_neqV List.append_assoc if_true if_false ite_true ite_false dite_true decide_true
attribute [go_sem] decide_false Bool.false_eq_true Bool.true_eq_false true_and and_true false_and and_false true_or or_true false_or or_false not_true_eq_false
attribute [go_sem] not_false_eq_true false_implies true_implies implies_true forall_const and_self Bool.not_true Bool.not_false Bool.true_and Bool.and_true Bool.false_and Bool.and_false
attribute [go_sem] Bool.true_or Bool.or_true Bool.false_or Bool.or_false beq_self_eq_true decide_eq_true_eq decide_eq_false_iff_not Option.isSome_some Option.isSome_none Option.map_some Option.map_none Option.bind_some
attribute [go_sem] Option.bind_none Option.some.injEq List.length_cons List.length_nil List.getElem?_cons_zero List.getElem?_cons_succ List.getElem?_nil List.take_succ_cons List.take_zero List.drop_succ_cons List.drop_zero List.take_nil
attribute [go_sem] List.drop_nil List.cons_append List.nil_append List.append_nil List.length_append List.length_map List.set_cons_zero List.set_cons_succ List.map_cons List.map_nil Nat.zero_add Nat.add_zero
attribute [go_sem] ge_iff_le gt_iff_lt post_app post_nil wk_tup wk_agg wk_int wk_bool wk_str wk_iface wk_list wk1_agg
attribute [go_sem] wk1_int wk1_bool wk1_str wk1_list wk0_int wk0_bool wk0_str wk0_list wkL_nil wkL_cons AV.int.injEq AV.bool.injEq
attribute [go_sem] AV.str.injEq upd List.all_cons List.all_nil eq_self_iff_true and_imp spec1 spec2 spec3 tI_dec
attribute [go_sem] tIs_dec tRng_dec tRd_dec tEar_dec tT_dec decI_int decL_ints decL_rng decL_rd
attribute [go_sem] decL_cons decs_cons decs_nil decs_ints decEar decRng decRd decRng_av decRd_av decT_agg
attribute [go_sem] leT leF ltT ltF eqT eqF nleT nltT wrapI tget Int.cast_ofNat_Int Int.natCast_add
attribute [go_sem] Nat.mul_one bne_self_eq_false idx_nat getElem?_at getElem?_at' set_at set_at' Rd_eta Rng_eta Rd_eta' neqT take_map
attribute [go_sem] neqF nltF cells_bool flat_bool cells_int flat_int cells_str flat_str cells_ptr flat_ptr cells_nilptr flat_nilptr
attribute [go_sem] cells_eptr flat_eptr cells_list flat_list cells_arr flat_arr cells_vec flat_vec cells_vptr flat_vptr cells_map flat_map
attribute [go_sem] cells_nilmap flat_nilmap cells_fn flat_fn cells_yield flat_yield cells_nilfn flat_nilfn cells_iface flat_iface cells_niliface flat_niliface
attribute [go_sem] cells_agg flat_agg putAt_map3 lookB updB Option.getD_some entR nextS_ptr
attribute [go_sem] nextSR_it nextSB_some nextSB_none convS_some convS_none bytesL cvO Tryz.EN Tryz.Ety Tryz.Eord Tryz.EP Tryz.Emt
attribute [go_sem] Tryz.Efs Tryz.ty1 Tryz.ty2 Tryz.ty3 Tryz.ty4 Tryz.ty5 Tryz.ty9
attribute [go_sem] Tryz.ty22 Tryz.ty23 Tryz.ty26 Tryz.ty27 Tryz.ty28 Tryz.ty30 Tryz.ty32
attribute [go_sem] Tryz.ty36 Tryz.ty37 Tryz.ty46 Tryz.ty47 Tryz.ty49 Tryz.ty51 Tryz.ty67 Tryz.ty105 Tryz.ty109 Tryz.ty111
attribute [go_sem] Tryz.ty113 Tryz.ty114 Tryz.ty116 Tryz.ty117 Tryz.ty119 Tryz.ty120 Tryz.ty127 Tryz.ty144 Tryz.ty146 Tryz.ty164 Tryz.ty169
attribute [go_sem] Tryz.ty170 Tryz.ty179 Tryz.ty181 Tryz.ty184 Tryz.ty189 Tryz.ty190 Tryz.ty192 Tryz.ty195 Tryz.ty197 Tryz.ty198 Tryz.ty202 Tryz.ty203
attribute [go_sem] Tryz.ty205 Tryz.ty210 Tryz.ty213 Tryz.ty215 Tryz.ty225 Tryz.ty232 Tryz.ty234 Tryz.ty236 Tryz.ty239 Tryz.ty242 Tryz.ty243 Tryz.ty244
attribute [go_sem] Tryz.ty245 Tryz.ty247 Tryz.ty252 Tryz.ty254 Tryz.ty255 Tryz.ty265 Tryz.ty268 Tryz.ty270
attribute [go_sem] Tryz.ord18 Tryz.ord19 Tryz.ord20 Tryz.ord25 Tryz.ord33
attribute [go_sem] Tryz.ord40 Tryz.ord44 Tryz.ord50 Tryz.ord51
attribute [go_sem] Tryz.ord57 Tryz.ord64
attribute [go_sem] Tryz.ord111 Tryz.ord117 Tryz.ord124 Tryz.ord126 Tryz.ord141 Tryz.ord147
attribute [go_sem] Tryz.ord159 Tryz.ord175 Tryz.ord179 Tryz.ord182 Tryz.ord187
attribute [go_sem] Tryz.ord207 Tryz.ord208
attribute [go_sem] Tryz.ord210
attribute [go_sem] Tryz.ord226 Tryz.ord229 Tryz.ord230
attribute [go_sem] Tryz.ord236 Tryz.ord257 Tryz.ord258 Tryz.results0 Tryz.results1
attribute [go_sem] Tryz.results2 Tryz.results3 Tryz.results4 Tryz.results5 Tryz.results6 Tryz.results7 Tryz.results8 Tryz.results9 Tryz.results10 Tryz.results11 Tryz.results12 Tryz.results13
attribute [go_sem] Tryz.results14 Tryz.results15 Tryz.results16 Tryz.results17 Tryz.results18 Tryz.results19 Tryz.results20 Tryz.results21 Tryz.results22 Tryz.results23 Tryz.results24 Tryz.results25
attribute [go_sem] Tryz.results26 Tryz.results27 Tryz.results28 Tryz.results29 Tryz.results30 Tryz.results31 Tryz.results32 Tryz.results33 Tryz.results34 Tryz.results35 Tryz.results36 Tryz.results37
attribute [go_sem] Tryz.results38 Tryz.results39 Tryz.results40 Tryz.results41 Tryz.results42 Tryz.results43 Tryz.results44 Tryz.results45 Tryz.results46 Tryz.results47 Tryz.results48 Tryz.results49
attribute [go_sem] Tryz.results50 Tryz.results51 Tryz.results52 Tryz.results53 Tryz.results54 Tryz.results55 Tryz.results56 Tryz.results57 Tryz.results58 Tryz.results59 Tryz.results60 Tryz.results61
attribute [go_sem] Tryz.results62 Tryz.results63 Tryz.results64 Tryz.results65 Tryz.results66 Tryz.results67 Tryz.results68 Tryz.results69 Tryz.results70 Tryz.results71 Tryz.results72 Tryz.results73
attribute [go_sem] Tryz.results74 Tryz.results75 Tryz.results76 Tryz.results77 Tryz.results78 Tryz.results79 Tryz.results80 Tryz.results81 Tryz.results82 Tryz.results83 Tryz.results84 Tryz.results85
attribute [go_sem] Tryz.results86 Tryz.results87 Tryz.results88 Tryz.results89 Tryz.results90 Tryz.results91 Tryz.results92 Tryz.results93 Tryz.results94 Tryz.results95 Tryz.results96 Tryz.results97
attribute [go_sem] Tryz.results98 Tryz.results99 Tryz.results100 Tryz.results101 Tryz.results102 Tryz.results103 Tryz.results104 Tryz.results105 Tryz.results106 Tryz.results107 Tryz.results108 Tryz.results109
attribute [go_sem] Tryz.results110 Tryz.results111 Tryz.results112 Tryz.results113 Tryz.results114 Tryz.results115 Tryz.results116 Tryz.results117 Tryz.results118 Tryz.results119 Tryz.results120 Tryz.results121
attribute [go_sem] Tryz.results122 Tryz.results123 Tryz.results124 Tryz.results125 Tryz.results126 Tryz.results127 Tryz.results128 Tryz.results129 Tryz.results130 Tryz.results131 Tryz.results132 Tryz.results133
attribute [go_sem] Tryz.results134 Tryz.results135 Tryz.results136 Tryz.results137 Tryz.results138 Tryz.results139 Tryz.results140 Tryz.results141 Tryz.results142 Tryz.results143 Tryz.results144 Tryz.results145
attribute [go_sem] Tryz.results146 Tryz.results147 Tryz.results148 Tryz.results149 Tryz.results150 Tryz.results151 Tryz.results152 Tryz.results153 Tryz.results154 Tryz.results155 Tryz.results156 Tryz.results157
attribute [go_sem] Tryz.results158 Tryz.results159 Tryz.results160 Tryz.results161 Tryz.results162 Tryz.results163 Tryz.results164 Tryz.results165 Tryz.results166 Tryz.results167 Tryz.results168 Tryz.results169
attribute [go_sem] Tryz.results170 Tryz.results171 Tryz.results172 Tryz.results173 Tryz.results174 Tryz.results175 Tryz.results176 Tryz.results177 Tryz.results178 Tryz.results179 Tryz.results180 Tryz.results181
attribute [go_sem] Tryz.results182 Tryz.results183 Tryz.results184 Tryz.results185 Tryz.results186 Tryz.results187 Tryz.results188 Tryz.results189 Tryz.results190 Tryz.results191 Tryz.results192 Tryz.results193
attribute [go_sem] Tryz.results194 Tryz.results195 Tryz.results196 Tryz.results197 Tryz.results198 Tryz.results199 Tryz.results200 Tryz.results201 Tryz.results202 Tryz.results203 Tryz.results204 Tryz.results205
attribute [go_sem] Tryz.results206 Tryz.results207 Tryz.results208 Tryz.results209 Tryz.results210 Tryz.results211 Tryz.results212 Tryz.results213 Tryz.results214 Tryz.results215 Tryz.results216 Tryz.results217
attribute [go_sem] Tryz.results218 Tryz.results219 Tryz.results220 Tryz.results221 Tryz.results222 Tryz.results223 Tryz.results224 Tryz.results225 Tryz.results226 Tryz.results227 Tryz.results228 Tryz.results229
attribute [go_sem] Tryz.results230 Tryz.results231 Tryz.results232 Tryz.results233 Tryz.results234 Tryz.results235 Tryz.results236 Tryz.results237 Tryz.results238 Tryz.results239 Tryz.results240 Tryz.results241
attribute [go_sem] Tryz.results242 Tryz.results243 Tryz.results244 Tryz.results245 Tryz.results246 Tryz.results247 Tryz.results248 Tryz.results249 Tryz.results250 Tryz.results251 Tryz.results252 Tryz.results253
attribute [go_sem] Tryz.results254 Tryz.results255 Tryz.results256 Tryz.results257 Tryz.results258 Tryz.results259
attribute [go_sem] Tryz.kp18 Tryz.kp19 Tryz.kp20 Tryz.kp21 Tryz.kp22
attribute [go_sem] Tryz.kp38 Tryz.kp39 Tryz.kp40
attribute [go_sem] Tryz.kp47 Tryz.kp50 Tryz.kp51
attribute [go_sem] Tryz.kp60 Tryz.kp61 Tryz.kp64
attribute [go_sem] Tryz.kp69 Tryz.kp76
attribute [go_sem] Tryz.kp81 Tryz.kp82 Tryz.kp83 Tryz.kp84 Tryz.kp85 Tryz.kp88
attribute [go_sem] Tryz.kp99
attribute [go_sem] Tryz.kp102 Tryz.kp103 Tryz.kp106 Tryz.kp107 Tryz.kp111 Tryz.kp112
attribute [go_sem] Tryz.kp117 Tryz.kp122 Tryz.kp123 Tryz.kp124 Tryz.kp125
attribute [go_sem] Tryz.kp126 Tryz.kp127 Tryz.kp128 Tryz.kp130 Tryz.kp131 Tryz.kp132 Tryz.kp133 Tryz.kp134 Tryz.kp135 Tryz.kp136 Tryz.kp137
attribute [go_sem] Tryz.kp138 Tryz.kp139 Tryz.kp140 Tryz.kp141 Tryz.kp142 Tryz.kp144 Tryz.kp146 Tryz.kp147
attribute [go_sem] Tryz.kp150 Tryz.kp151 Tryz.kp155 Tryz.kp156 Tryz.kp157 Tryz.kp158 Tryz.kp159 Tryz.kp160 Tryz.kp161
attribute [go_sem] Tryz.kp162 Tryz.kp163 Tryz.kp164 Tryz.kp165 Tryz.kp166 Tryz.kp167 Tryz.kp168 Tryz.kp169 Tryz.kp170 Tryz.kp171 Tryz.kp172 Tryz.kp173
attribute [go_sem] Tryz.kp174 Tryz.kp175 Tryz.kp176 Tryz.kp177 Tryz.kp178 Tryz.kp179 Tryz.kp180 Tryz.kp181 Tryz.kp182 Tryz.kp185
attribute [go_sem] Tryz.kp187 Tryz.kp188 Tryz.kp192 Tryz.kp193
attribute [go_sem] Tryz.kp199 Tryz.kp200 Tryz.kp201 Tryz.kp202 Tryz.kp203 Tryz.kp204 Tryz.kp205 Tryz.kp206 Tryz.kp207 Tryz.kp208 Tryz.kp209
attribute [go_sem] Tryz.kp210 Tryz.kp218
attribute [go_sem] Tryz.kp223 Tryz.kp225 Tryz.kp226 Tryz.kp227 Tryz.kp228 Tryz.kp229 Tryz.kp230 Tryz.kp232
attribute [go_sem] Tryz.kp236 Tryz.kp238
attribute [go_sem] Tryz.kp257
attribute [go_sem] Tryz.kp258
end Go.Proofs
