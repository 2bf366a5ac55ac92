/- The rules by which statements are walked, as one set. Written by program. -/
import Derived.Test.YtgbdndlmdklefaaGreatHK12
namespace Go.Proofs
open Go Go.Mu
attribute [go_sem ↓] Qc DG Er IX Ox JS Qh K4 K5 KV I9 Pp
attribute [go_sem ↓] Rx Gf Pb Pg RM IT BA ze Ba Bg PA I1
attribute [go_sem ↓] Dg FN Ct Bz zr Ac G9 AD I7 CH vK
attribute [go_sem ↓] Cp vn wZ KW G0 yr pj xc za uo I4
attribute [go_sem ↓] KZ LG tX vJ sH Ll Ii EW Bp EV yq
attribute [go_sem ↓] GB zU Ak vv Ce FX Ip CJ
attribute [go_sem] GL Dj JO Lg Gs Hf Ho ID IG Cq
attribute [go_sem] IF FW Ih IE Cr E2 CO FO EI Ff GI
attribute [go_sem] Hz Gt Aw zP DC JU A0 la kV oh kY De
attribute [go_sem] isInt uH fU ne_eq pop hop cU aH bI kj di
attribute [go_sem] lq Hw Cv DY Fh Bv Ey CU zS Da LR Kl
attribute [go_sem] CI ki Et AU ye GF FJ wP Eu GK H9
attribute [go_sem] GR I3 CA BB Kx E6 E1 AT Ah G2 Iz EM
attribute [go_sem] ig xx Fr.put Fr.get Fr.eC ins ae number D5 DS xS BG
attribute [go_sem] AQ zY Ep rI rB apart uM oE Ci oU ff TK.agg
attribute [go_sem] uR Qo List.getElem?_toArray D6 sr C6 r9 dT a8 aZ lV fI
attribute [go_sem] wD aJ sm PF Jo Hc Lm zH CV tG yL je
attribute [go_sem] pd QL dF Ir Gv List.append_assoc if_true if_false ite_true ite_false dite_true decide_true
attribute [go_sem] decide_false Bool.false_eq_true Bool.true_eq_false true_and and_true false_and and_false true_or or_true false_or or_false not_true_eq_false
attribute [go_sem] not_false_eq_true false_implies true_implies implies_true forall_const and_self Bool.not_true Bool.not_false Bool.true_and Bool.and_true Bool.false_and Bool.and_false
attribute [go_sem] Bool.true_or Bool.or_true Bool.false_or Bool.or_false beq_self_eq_true decide_eq_true_eq decide_eq_false_iff_not Option.isSome_some Option.isSome_none Option.map_some Option.map_none Option.bind_some
attribute [go_sem] Option.bind_none Option.some.injEq List.length_cons List.length_nil List.getElem?_cons_zero List.getElem?_cons_succ List.getElem?_nil List.take_succ_cons List.take_zero List.drop_succ_cons List.drop_zero List.take_nil
attribute [go_sem] List.drop_nil List.cons_append List.nil_append List.append_nil List.length_append List.length_map List.set_cons_zero List.set_cons_succ List.map_cons List.map_nil Nat.zero_add Nat.add_zero
attribute [go_sem] ge_iff_le gt_iff_lt Lz Jj Si Ql QD O3 Re Lx Oc Pc
attribute [go_sem] Of J8 PT nV Pu LL OB Jy OZ JH AV.int.injEq AV.bool.injEq
attribute [go_sem] AV.str.injEq upd List.all_cons List.all_nil eq_self_iff_true and_imp jh cW jk Rk
attribute [go_sem] OQ Ku vF Kd tN LV HB Kp Po
attribute [go_sem] LH Gu FU JL p8 pn gj kl o8 lr nD
attribute [go_sem] leT leF ltT ltF eqT eqF Vb VM Uc E3 Int.cast_ofNat_Int Int.natCast_add
attribute [go_sem] Nat.mul_one bne_self_eq_false bu getElem?_at getElem?_at' RV OI Rj Pa PI U9 yR
attribute [go_sem] U5 Vr DV F8 l8 JJ Ga Kk G8 La zg Au
attribute [go_sem] EG GP fY FD Fy Je Fx Lv CN Gq G6 Li
attribute [go_sem] yA AS I8 Om As EO Bi Ee Aq C5 uT wU
attribute [go_sem] Gn flat_agg Fc Nk RZ Option.getD_some Ev IJ
attribute [go_sem] H3 AW Av Ef CB lC cvO Tryz.EN Tryz.Ety Tryz.Ve Tryz.EP Tryz.Emt
attribute [go_sem] Tryz.Efs Tryz.ty1 Tryz.ty2 Tryz.ty3 Tryz.ty4 Tryz.ty5 Tryz.ty9
attribute [go_sem] Tryz.U4 Tryz.Vl Tryz.K8 Tryz.Vh Tryz.VJ Tryz.U7 Tryz.VK
attribute [go_sem] Tryz.U2 Tryz.Vu Tryz.Vx Tryz.VC Tryz.U6 Tryz.Vn Tryz.VH Tryz.UT Tryz.Ul
attribute [go_sem] Tryz.Tv Tryz.S5 Tryz.UK Tryz.TW Tryz.S7 Tryz.Uj Tryz.SW Tryz.S9 Tryz.SR Tryz.Tk
attribute [go_sem] Tryz.Tp Tryz.S6 Tryz.Tl Tryz.Uu Tryz.TQ Tryz.TN Tryz.Tw Tryz.TS Tryz.Ts Tryz.SU Tryz.Ud
attribute [go_sem] Tryz.S0 Tryz.SS Tryz.Ut Tryz.SX Tryz.Uz Tryz.Uf Tryz.Ui Tryz.Un Tryz.Tj Tryz.Tr Tryz.TP
attribute [go_sem] Tryz.Us Tryz.S3 Tryz.S2 Tryz.Ue
attribute [go_sem] Tryz.Vk Tryz.Vy
attribute [go_sem] Tryz.Ju
attribute [go_sem] Tryz.E9 Tryz.uh Tryz.nU Tryz.UE Tryz.Ng Tryz.xo
attribute [go_sem] Tryz.xj Tryz.To Tryz.xy Tryz.xq Tryz.xk Tryz.xA
attribute [go_sem] Tryz.xl Tryz.L5
attribute [go_sem] Tryz.Cd Tryz.MK Tryz.xI Tryz.mU Tryz.sC
attribute [go_sem] Tryz.uj Tryz.Hn Tryz.xW Tryz.pe Tryz.sM Tryz.nv Tryz.p7 Tryz.bg Tryz.um
attribute [go_sem] Tryz.uw Tryz.y9 Tryz.yp Tryz.zl Tryz.gP
attribute [go_sem] Tryz.th Tryz.zZ Tryz.nw
attribute [go_sem] Tryz.tF
attribute [go_sem] Tryz.y8 Tryz.GY Tryz.IS
attribute [go_sem] Tryz.F5 Tryz.Ha Tryz.FB Tryz.Fq Tryz.results0 Tryz.results1
attribute [go_sem] Tryz.results2 Tryz.results3 Tryz.results4 Tryz.results5 Tryz.results6 Tryz.results7 Tryz.results8 Tryz.results9 Tryz.results10 Tryz.results11 Tryz.results12 Tryz.results13
attribute [go_sem] Tryz.results14 Tryz.results15 Tryz.results16 Tryz.results17 Tryz.results18 Tryz.results19 Tryz.results20 Tryz.results21 Tryz.results22 Tryz.results23 Tryz.results24 Tryz.results25
attribute [go_sem] Tryz.results26 Tryz.results27 Tryz.results28 Tryz.results29 Tryz.results30 Tryz.results31 Tryz.results32 Tryz.results33 Tryz.results34 Tryz.results35 Tryz.results36 Tryz.results37
attribute [go_sem] Tryz.results38 Tryz.results39 Tryz.results40 Tryz.results41 Tryz.results42 Tryz.results43 Tryz.results44 Tryz.results45 Tryz.results46 Tryz.results47 Tryz.results48 Tryz.results49
attribute [go_sem] Tryz.results50 Tryz.results51 Tryz.results52 Tryz.results53 Tryz.results54 Tryz.results55 Tryz.results56 Tryz.results57 Tryz.results58 Tryz.results59 Tryz.results60 Tryz.results61
attribute [go_sem] Tryz.results62 Tryz.results63 Tryz.results64 Tryz.results65 Tryz.results66 Tryz.results67 Tryz.results68 Tryz.results69 Tryz.results70 Tryz.results71 Tryz.results72 Tryz.results73
attribute [go_sem] Tryz.results74 Tryz.results75 Tryz.results76 Tryz.results77 Tryz.results78 Tryz.results79 Tryz.results80 Tryz.results81 Tryz.results82 Tryz.results83 Tryz.results84 Tryz.results85
attribute [go_sem] Tryz.results86 Tryz.results87 Tryz.results88 Tryz.results89 Tryz.results90 Tryz.results91 Tryz.results92 Tryz.results93 Tryz.results94 Tryz.results95 Tryz.results96 Tryz.results97
attribute [go_sem] Tryz.results98 Tryz.results99 Tryz.results100 Tryz.results101 Tryz.results102 Tryz.results103 Tryz.results104 Tryz.results105 Tryz.results106 Tryz.results107 Tryz.results108 Tryz.results109
attribute [go_sem] Tryz.results110 Tryz.results111 Tryz.results112 Tryz.results113 Tryz.results114 Tryz.results115 Tryz.results116 Tryz.results117 Tryz.results118 Tryz.results119 Tryz.results120 Tryz.results121
attribute [go_sem] Tryz.results122 Tryz.results123 Tryz.results124 Tryz.results125 Tryz.results126 Tryz.results127 Tryz.results128 Tryz.results129 Tryz.results130 Tryz.results131 Tryz.results132 Tryz.results133
attribute [go_sem] Tryz.results134 Tryz.results135 Tryz.results136 Tryz.results137 Tryz.results138 Tryz.results139 Tryz.results140 Tryz.results141 Tryz.results142 Tryz.results143 Tryz.results144 Tryz.results145
attribute [go_sem] Tryz.results146 Tryz.results147 Tryz.results148 Tryz.results149 Tryz.results150 Tryz.results151 Tryz.results152 Tryz.results153 Tryz.results154 Tryz.results155 Tryz.results156 Tryz.results157
attribute [go_sem] Tryz.results158 Tryz.results159 Tryz.results160 Tryz.results161 Tryz.results162 Tryz.results163 Tryz.results164 Tryz.results165 Tryz.results166 Tryz.results167 Tryz.results168 Tryz.results169
attribute [go_sem] Tryz.results170 Tryz.results171 Tryz.results172 Tryz.results173 Tryz.results174 Tryz.results175 Tryz.results176 Tryz.results177 Tryz.results178 Tryz.results179 Tryz.results180 Tryz.results181
attribute [go_sem] Tryz.results182 Tryz.results183 Tryz.results184 Tryz.results185 Tryz.results186 Tryz.results187 Tryz.results188 Tryz.results189 Tryz.results190 Tryz.results191 Tryz.results192 Tryz.results193
attribute [go_sem] Tryz.results194 Tryz.results195 Tryz.results196 Tryz.results197 Tryz.results198 Tryz.results199 Tryz.results200 Tryz.results201 Tryz.results202 Tryz.results203 Tryz.results204 Tryz.results205
attribute [go_sem] Tryz.results206 Tryz.results207 Tryz.results208 Tryz.results209 Tryz.results210 Tryz.results211 Tryz.results212 Tryz.results213 Tryz.results214 Tryz.results215 Tryz.results216 Tryz.results217
attribute [go_sem] Tryz.results218 Tryz.results219 Tryz.results220 Tryz.results221 Tryz.results222 Tryz.results223 Tryz.results224 Tryz.results225 Tryz.results226 Tryz.results227 Tryz.results228 Tryz.results229
attribute [go_sem] Tryz.results230 Tryz.results231 Tryz.results232 Tryz.results233 Tryz.results234 Tryz.results235 Tryz.results236 Tryz.results237 Tryz.results238 Tryz.results239 Tryz.results240 Tryz.results241
attribute [go_sem] Tryz.results242 Tryz.results243 Tryz.results244 Tryz.results245 Tryz.results246 Tryz.results247 Tryz.results248 Tryz.results249 Tryz.results250 Tryz.results251 Tryz.results252 Tryz.results253
attribute [go_sem] Tryz.results254 Tryz.results255 Tryz.results256 Tryz.results257 Tryz.results258 Tryz.results259
attribute [go_sem] Tryz.kp9
attribute [go_sem] Tryz.RR Tryz.Ra Tryz.Rg Tryz.QM Tryz.Q2 Tryz.EL Tryz.RX Tryz.Qv Tryz.Qm Tryz.Rh
attribute [go_sem] Tryz.QA Tryz.Qg Tryz.Se Tryz.Rt Tryz.QC Tryz.Rf
attribute [go_sem] Tryz.RG Tryz.Qf Tryz.RD Tryz.Rw
attribute [go_sem] Tryz.Qu Tryz.Jm Tryz.QF Tryz.Rz Tryz.QT Tryz.RA Tryz.QQ Tryz.Rl
attribute [go_sem] Tryz.Qr Tryz.Rc
attribute [go_sem] Tryz.R7 Tryz.Q4 Tryz.RO Tryz.Sf Tryz.Js Tryz.Sj
attribute [go_sem] Tryz.Rr Tryz.P9 Tryz.Qd Tryz.Q5 Tryz.QE Tryz.Qz Tryz.P5 Tryz.Di Tryz.P7 Tryz.M9 Tryz.Mi
attribute [go_sem] Tryz.L6 Tryz.Fb Tryz.MQ Tryz.NO Tryz.Md Tryz.ED Tryz.ES Tryz.MJ Tryz.Nx Tryz.Nc Tryz.Nz Tryz.MW
attribute [go_sem] Tryz.D8 Tryz.DL Tryz.Mo Tryz.Mk Tryz.L3 Tryz.MY
attribute [go_sem] Tryz.xn Tryz.MP Tryz.NP Tryz.MD Tryz.Mg Tryz.Me
attribute [go_sem] Tryz.Mp Tryz.Mm Tryz.Np Tryz.DD Tryz.MB Tryz.N5 Tryz.Na Tryz.ML Tryz.Ma Tryz.bp Tryz.Nr Tryz.Nt
attribute [go_sem] Tryz.M7 Tryz.Nj Tryz.MZ Tryz.Nl Tryz.DK Tryz.Nn Tryz.NN Tryz.MN Tryz.Nu Tryz.Ms Tryz.M5 Tryz.MV
attribute [go_sem] Tryz.Mh Tryz.ME Tryz.M8 Tryz.Mv
attribute [go_sem] Tryz.No Tryz.M3 Tryz.Nh Tryz.MA Tryz.Cf Tryz.Nv
attribute [go_sem] Tryz.MI Tryz.MU Tryz.L7 Tryz.Cj Tryz.M1 Tryz.Nq Tryz.N1 Tryz.CX
attribute [go_sem] Tryz.Mx Tryz.MR Tryz.DN Tryz.M6 Tryz.Dp Tryz.Nw Tryz.Cx Tryz.xv Tryz.Mj
attribute [go_sem] Tryz.MX Tryz.NQ
attribute [go_sem] Tryz.Mn Tryz.NB Tryz.Nb Tryz.Ni Tryz.Ns
attribute [go_sem] Tryz.Nf Tryz.L8 Tryz.Mc
attribute [go_sem] Tryz.Mf
attribute [go_sem] Tryz.Mw
end Go.Proofs
