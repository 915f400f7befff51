/- Proved here: facts about the functions and types of this seat; no condition. Written by a program (hdr.py). -/
import Derived.Test.YtjlaenglmdpboaaGreatIm4
import Derived.Test.YtjlaenglmdpboaaGreatProg
import Derived.Test.YtjlaenglmdpboaaGreatQHdlaw23
import Derived.Test.YtjlaenglmdpboaaGreatX1
import Derived.KernelRfl
namespace Go.Proofs.YtjlaenglmdpboaaGreat.Hd
open Go Go.Im Go.Proofs Go.RowKit
set_option maxRecDepth 100000
abbrev f_law23_HeadParses : Nat := 7
theorem F_law23_HeadParses : Tryz.prog.funcs[7]? = some Tryz.f7 := Tryz.func7
abbrev f_token_Lex : Nat := 9
theorem F_token_Lex : Tryz.prog.funcs[9]? = some Tryz.f9 := Tryz.func9
abbrev f_ref22_Lex : Nat := 10
theorem F_ref22_Lex : Tryz.prog.funcs[10]? = some Tryz.f10 := Tryz.func10
abbrev f_head_Parse : Nat := 32
theorem F_head_Parse : Tryz.prog.funcs[32]? = some Tryz.f32 := Tryz.func32
abbrev f_ref23_Parse : Nat := 33
theorem F_ref23_Parse : Tryz.prog.funcs[33]? = some Tryz.f33 := Tryz.func33
abbrev f_ref23_Same : Nat := 34
theorem F_ref23_Same : Tryz.prog.funcs[34]? = some Tryz.f34 := Tryz.func34
abbrev f_law23_Of : Nat := 35
theorem F_law23_Of : Tryz.prog.funcs[35]? = some Tryz.f35 := Tryz.func35
abbrev f_head_Head_Valence : Nat := 36
theorem F_head_Head_Valence : Tryz.prog.funcs[36]? = some Tryz.f36 := Tryz.func36
abbrev f_ref05_Texts : Nat := 37
theorem F_ref05_Texts : Tryz.prog.funcs[37]? = some Tryz.f37 := Tryz.func37
abbrev f_head_Head_Names : Nat := 38
theorem F_head_Head_Names : Tryz.prog.funcs[38]? = some Tryz.f38 := Tryz.func38
abbrev f_ref23_Names : Nat := 39
theorem F_ref23_Names : Tryz.prog.funcs[39]? = some Tryz.f39 := Tryz.func39
abbrev f_ref23_Text : Nat := 41
theorem F_ref23_Text : Tryz.prog.funcs[41]? = some Tryz.f41 := Tryz.func41
abbrev f_token_Token_Is : Nat := 42
theorem F_token_Token_Is : Tryz.prog.funcs[42]? = some Tryz.f42 := Tryz.func42
abbrev f_token_lexer_next : Nat := 44
theorem F_token_lexer_next : Tryz.prog.funcs[44]? = some Tryz.f44 := Tryz.func44
abbrev f_ref22_blanks : Nat := 45
theorem F_ref22_blanks : Tryz.prog.funcs[45]? = some Tryz.f45 := Tryz.func45
abbrev f_ref22_One : Nat := 46
theorem F_ref22_One : Tryz.prog.funcs[46]? = some Tryz.f46 := Tryz.func46
abbrev f_ref23_name : Nat := 58
theorem F_ref23_name : Tryz.prog.funcs[58]? = some Tryz.f58 := Tryz.func58
abbrev f_ref22_Is : Nat := 59
theorem F_ref22_Is : Tryz.prog.funcs[59]? = some Tryz.f59 := Tryz.func59
abbrev f_head_names : Nat := 60
theorem F_head_names : Tryz.prog.funcs[60]? = some Tryz.f60 := Tryz.func60
abbrev f_slices_Clone_string_string : Nat := 63
theorem F_slices_Clone_string_string : Tryz.prog.funcs[63]? = some Tryz.f63 := Tryz.func63
abbrev f_ref23_apart : Nat := 64
theorem F_ref23_apart : Tryz.prog.funcs[64]? = some Tryz.f64 := Tryz.func64
abbrev f_glyph_Kind : Nat := 67
theorem F_glyph_Kind : Tryz.prog.funcs[67]? = some Tryz.f67 := Tryz.func67
abbrev f_deci_Begins : Nat := 68
theorem F_deci_Begins : Tryz.prog.funcs[68]? = some Tryz.f68 := Tryz.func68
abbrev f_token_lexer_numbers : Nat := 69
theorem F_token_lexer_numbers : Tryz.prog.funcs[69]? = some Tryz.f69 := Tryz.func69
abbrev f_token_lexer_word : Nat := 70
theorem F_token_lexer_word : Tryz.prog.funcs[70]? = some Tryz.f70 := Tryz.func70
abbrev f_token_lexer_text : Nat := 71
theorem F_token_lexer_text : Tryz.prog.funcs[71]? = some Tryz.f71 := Tryz.func71
abbrev f_token_lexer_add : Nat := 72
theorem F_token_lexer_add : Tryz.prog.funcs[72]? = some Tryz.f72 := Tryz.func72
abbrev f_ref05_Kind : Nat := 73
theorem F_ref05_Kind : Tryz.prog.funcs[73]? = some Tryz.f73 := Tryz.func73
abbrev f_ref04_Begins : Nat := 74
theorem F_ref04_Begins : Tryz.prog.funcs[74]? = some Tryz.f74 := Tryz.func74
abbrev f_ref22_numbers : Nat := 75
theorem F_ref22_numbers : Tryz.prog.funcs[75]? = some Tryz.f75 := Tryz.func75
abbrev f_ref22_text : Nat := 76
theorem F_ref22_text : Tryz.prog.funcs[76]? = some Tryz.f76 := Tryz.func76
abbrev f_ref22_word : Nat := 77
theorem F_ref22_word : Tryz.prog.funcs[77]? = some Tryz.f77 := Tryz.func77
abbrev f_ref05_Name : Nat := 78
theorem F_ref05_Name : Tryz.prog.funcs[78]? = some Tryz.f78 := Tryz.func78
abbrev f_glyph_in : Nat := 87
theorem F_glyph_in : Tryz.prog.funcs[87]? = some Tryz.f87 := Tryz.func87
abbrev f_deci_digit : Nat := 88
theorem F_deci_digit : Tryz.prog.funcs[88]? = some Tryz.f88 := Tryz.func88
abbrev f_deci_Read : Nat := 89
theorem F_deci_Read : Tryz.prog.funcs[89]? = some Tryz.f89 := Tryz.func89
abbrev f_array_Num : Nat := 90
theorem F_array_Num : Tryz.prog.funcs[90]? = some Tryz.f90 := Tryz.func90
abbrev f_array_Nums : Nat := 91
theorem F_array_Nums : Tryz.prog.funcs[91]? = some Tryz.f91 := Tryz.func91
abbrev f_glyph_Word : Nat := 92
theorem F_glyph_Word : Tryz.prog.funcs[92]? = some Tryz.f92 := Tryz.func92
abbrev f_glyph_Name : Nat := 93
theorem F_glyph_Name : Tryz.prog.funcs[93]? = some Tryz.f93 := Tryz.func93
abbrev f_array_Char : Nat := 94
theorem F_array_Char : Tryz.prog.funcs[94]? = some Tryz.f94 := Tryz.func94
abbrev f_array_Text : Nat := 95
theorem F_array_Text : Tryz.prog.funcs[95]? = some Tryz.f95 := Tryz.func95
abbrev f_ref05_Table : Nat := 96
theorem F_ref05_Table : Tryz.prog.funcs[96]? = some Tryz.f96 := Tryz.func96
abbrev f_ref04_Digit : Nat := 97
theorem F_ref04_Digit : Tryz.prog.funcs[97]? = some Tryz.f97 := Tryz.func97
abbrev f_ref04_Read : Nat := 98
theorem F_ref04_Read : Tryz.prog.funcs[98]? = some Tryz.f98 := Tryz.func98
abbrev f_ref05_Word : Nat := 99
theorem F_ref05_Word : Tryz.prog.funcs[99]? = some Tryz.f99 := Tryz.func99
abbrev f_slices_Clone_int_int : Nat := 100
theorem F_slices_Clone_int_int : Tryz.prog.funcs[100]? = some Tryz.f100 := Tryz.func100
abbrev f_slices_Clone_rune_rune : Nat := 101
theorem F_slices_Clone_rune_rune : Tryz.prog.funcs[101]? = some Tryz.f101 := Tryz.func101
abbrev f_whole_Int_Neg : Nat := 102
theorem F_whole_Int_Neg : Tryz.prog.funcs[102]? = some Tryz.f102 := Tryz.func102
abbrev f_ratio_Rat_down : Nat := 104
theorem F_ratio_Rat_down : Tryz.prog.funcs[104]? = some Tryz.f104 := Tryz.func104
abbrev f_bits_Len32 : Nat := 114
theorem F_bits_Len32 : Tryz.prog.funcs[114]? = some Tryz.f114 := Tryz.func114
abbrev f_deci_digits : Nat := 117
theorem F_deci_digits : Tryz.prog.funcs[117]? = some Tryz.f117 := Tryz.func117
abbrev f_deci_exponent : Nat := 118
theorem F_deci_exponent : Tryz.prog.funcs[118]? = some Tryz.f118 := Tryz.func118
abbrev f_nat_Parse : Nat := 119
theorem F_nat_Parse : Tryz.prog.funcs[119]? = some Tryz.f119 := Tryz.func119
abbrev f_deci_scaled : Nat := 120
theorem F_deci_scaled : Tryz.prog.funcs[120]? = some Tryz.f120 := Tryz.func120
abbrev f_ratio_Whole : Nat := 121
theorem F_ratio_Whole : Tryz.prog.funcs[121]? = some Tryz.f121 := Tryz.func121
abbrev f_whole_Of : Nat := 122
theorem F_whole_Of : Tryz.prog.funcs[122]? = some Tryz.f122 := Tryz.func122
abbrev f_array_Count : Nat := 123
theorem F_array_Count : Tryz.prog.funcs[123]? = some Tryz.f123 := Tryz.func123
abbrev f_slices_Clone_ratio_Rat_ratio_Rat : Nat := 124
theorem F_slices_Clone_ratio_Rat_ratio_Rat : Tryz.prog.funcs[124]? = some Tryz.f124 := Tryz.func124
abbrev f_ref03_Zero : Nat := 125
theorem F_ref03_Zero : Tryz.prog.funcs[125]? = some Tryz.f125 := Tryz.func125
abbrev f_ref04_run : Nat := 126
theorem F_ref04_run : Tryz.prog.funcs[126]? = some Tryz.f126 := Tryz.func126
abbrev f_ref04_Times10 : Nat := 127
theorem F_ref04_Times10 : Tryz.prog.funcs[127]? = some Tryz.f127 := Tryz.func127
abbrev f_ref03_Whole : Nat := 128
theorem F_ref03_Whole : Tryz.prog.funcs[128]? = some Tryz.f128 := Tryz.func128
abbrev f_ref02_Of : Nat := 129
theorem F_ref02_Of : Tryz.prog.funcs[129]? = some Tryz.f129 := Tryz.func129
abbrev f_nat_Nat_Zero : Nat := 130
theorem F_nat_Nat_Zero : Tryz.prog.funcs[130]? = some Tryz.f130 := Tryz.func130
abbrev f_nat_Nat_small : Nat := 131
theorem F_nat_Nat_small : Tryz.prog.funcs[131]? = some Tryz.f131 := Tryz.func131
abbrev f_nat_Of : Nat := 132
theorem F_nat_Of : Tryz.prog.funcs[132]? = some Tryz.f132 := Tryz.func132
abbrev f_nat_Nat_Mul : Nat := 139
theorem F_nat_Nat_Mul : Tryz.prog.funcs[139]? = some Tryz.f139 := Tryz.func139
abbrev f_nat_Nat_Add : Nat := 140
theorem F_nat_Nat_Add : Tryz.prog.funcs[140]? = some Tryz.f140 := Tryz.func140
abbrev f_deci_ten : Nat := 141
theorem F_deci_ten : Tryz.prog.funcs[141]? = some Tryz.f141 := Tryz.func141
abbrev f_ratio_Rat_Times : Nat := 142
theorem F_ratio_Rat_Times : Tryz.prog.funcs[142]? = some Tryz.f142 := Tryz.func142
abbrev f_ratio_Rat_By : Nat := 143
theorem F_ratio_Rat_By : Tryz.prog.funcs[143]? = some Tryz.f143 := Tryz.func143
abbrev f_ref03_Mul : Nat := 144
theorem F_ref03_Mul : Tryz.prog.funcs[144]? = some Tryz.f144 := Tryz.func144
abbrev f_ref04_zeros : Nat := 145
theorem F_ref04_zeros : Tryz.prog.funcs[145]? = some Tryz.f145 := Tryz.func145
abbrev f_ref03_Div : Nat := 146
theorem F_ref03_Div : Tryz.prog.funcs[146]? = some Tryz.f146 := Tryz.func146
abbrev f_ref01_Trim : Nat := 147
theorem F_ref01_Trim : Tryz.prog.funcs[147]? = some Tryz.f147 := Tryz.func147
abbrev f_nat_trim : Nat := 148
theorem F_nat_trim : Tryz.prog.funcs[148]? = some Tryz.f148 := Tryz.func148
abbrev f_bits_Add32 : Nat := 150
theorem F_bits_Add32 : Tryz.prog.funcs[150]? = some Tryz.f150 := Tryz.func150
abbrev f_nat_Nat_Pow : Nat := 151
theorem F_nat_Nat_Pow : Tryz.prog.funcs[151]? = some Tryz.f151 := Tryz.func151
abbrev f_ratio_New : Nat := 152
theorem F_ratio_New : Tryz.prog.funcs[152]? = some Tryz.f152 := Tryz.func152
abbrev f_whole_Int_Times : Nat := 153
theorem F_whole_Int_Times : Tryz.prog.funcs[153]? = some Tryz.f153 := Tryz.func153
abbrev f_ratio_Rat_under : Nat := 154
theorem F_ratio_Rat_under : Tryz.prog.funcs[154]? = some Tryz.f154 := Tryz.func154
abbrev f_ref03_New : Nat := 155
theorem F_ref03_New : Tryz.prog.funcs[155]? = some Tryz.f155 := Tryz.func155
abbrev f_ref02_Mul : Nat := 156
theorem F_ref02_Mul : Tryz.prog.funcs[156]? = some Tryz.f156 := Tryz.func156
abbrev f_ref03_Top : Nat := 157
theorem F_ref03_Top : Tryz.prog.funcs[157]? = some Tryz.f157 := Tryz.func157
abbrev f_ref03_Bot : Nat := 158
theorem F_ref03_Bot : Tryz.prog.funcs[158]? = some Tryz.f158 := Tryz.func158
abbrev f_nat_Nat_One : Nat := 159
theorem F_nat_Nat_One : Tryz.prog.funcs[159]? = some Tryz.f159 := Tryz.func159
abbrev f_nat_Nat_Limbs : Nat := 160
theorem F_nat_Nat_Limbs : Tryz.prog.funcs[160]? = some Tryz.f160 := Tryz.func160
abbrev f_nat_Nat_Gcd : Nat := 161
theorem F_nat_Nat_Gcd : Tryz.prog.funcs[161]? = some Tryz.f161 := Tryz.func161
abbrev f_whole_Int_Size : Nat := 162
theorem F_whole_Int_Size : Tryz.prog.funcs[162]? = some Tryz.f162 := Tryz.func162
abbrev f_nat_Nat_DivMod : Nat := 163
theorem F_nat_Nat_DivMod : Tryz.prog.funcs[163]? = some Tryz.f163 := Tryz.func163
abbrev f_ref01_Gcd : Nat := 164
theorem F_ref01_Gcd : Tryz.prog.funcs[164]? = some Tryz.f164 := Tryz.func164
abbrev f_ref01_DivMod : Nat := 165
theorem F_ref01_DivMod : Tryz.prog.funcs[165]? = some Tryz.f165 := Tryz.func165
abbrev f_ref01_Mul : Nat := 166
theorem F_ref01_Mul : Tryz.prog.funcs[166]? = some Tryz.f166 := Tryz.func166
abbrev f_nat_Nat_Uint : Nat := 167
theorem F_nat_Nat_Uint : Tryz.prog.funcs[167]? = some Tryz.f167 := Tryz.func167
abbrev f_nat_Nat_Cmp : Nat := 168
theorem F_nat_Nat_Cmp : Tryz.prog.funcs[168]? = some Tryz.f168 := Tryz.func168
abbrev f_nat_long : Nat := 169
theorem F_nat_long : Tryz.prog.funcs[169]? = some Tryz.f169 := Tryz.func169
abbrev f_ref01_Cmp : Nat := 170
theorem F_ref01_Cmp : Tryz.prog.funcs[170]? = some Tryz.f170 := Tryz.func170
abbrev f_ref01_Sub : Nat := 171
theorem F_ref01_Sub : Tryz.prog.funcs[171]? = some Tryz.f171 := Tryz.func171
abbrev f_ref01_digit : Nat := 172
theorem F_ref01_digit : Tryz.prog.funcs[172]? = some Tryz.f172 := Tryz.func172
abbrev f_ref01_written : Nat := 173
theorem F_ref01_written : Tryz.prog.funcs[173]? = some Tryz.f173 := Tryz.func173
abbrev f_bits_LeadingZeros32 : Nat := 174
theorem F_bits_LeadingZeros32 : Tryz.prog.funcs[174]? = some Tryz.f174 := Tryz.func174
abbrev f_nat_Nat_Shl : Nat := 175
theorem F_nat_Nat_Shl : Tryz.prog.funcs[175]? = some Tryz.f175 := Tryz.func175
abbrev f_nat_under : Nat := 176
theorem F_nat_under : Tryz.prog.funcs[176]? = some Tryz.f176 := Tryz.func176
abbrev f_nat_back : Nat := 177
theorem F_nat_back : Tryz.prog.funcs[177]? = some Tryz.f177 := Tryz.func177
abbrev f_nat_Nat_Shr : Nat := 178
theorem F_nat_Nat_Shr : Tryz.prog.funcs[178]? = some Tryz.f178 := Tryz.func178
abbrev f_bits_Sub32 : Nat := 179
theorem F_bits_Sub32 : Tryz.prog.funcs[179]? = some Tryz.f179 := Tryz.func179
abbrev f_law23_awake : Nat := 28
attribute [go_sem] Tryz.f7 Tryz.f9 Tryz.f10 Tryz.f32 Tryz.f33 Tryz.f34 Tryz.f35 Tryz.f36 Tryz.f37 Tryz.f38 Tryz.f39 Tryz.f41 Tryz.f42 Tryz.f44 Tryz.f45 Tryz.f46 Tryz.f58 Tryz.f59 Tryz.f60 Tryz.f63 Tryz.f64 Tryz.f67 Tryz.f68 Tryz.f69 Tryz.f70 Tryz.f71 Tryz.f72 Tryz.f73 Tryz.f74 Tryz.f75 Tryz.f76 Tryz.f77 Tryz.f78 Tryz.f87 Tryz.f88 Tryz.f89 Tryz.f90 Tryz.f91 Tryz.f92 Tryz.f93 Tryz.f94 Tryz.f95 Tryz.f96 Tryz.f97 Tryz.f98 Tryz.f99 Tryz.f100 Tryz.f101 Tryz.f102 Tryz.f104 Tryz.f114 Tryz.f117 Tryz.f118 Tryz.f119 Tryz.f120 Tryz.f121 Tryz.f122 Tryz.f123 Tryz.f124 Tryz.f125 Tryz.f126 Tryz.f127 Tryz.f128 Tryz.f129 Tryz.f130 Tryz.f131 Tryz.f132 Tryz.f139 Tryz.f140 Tryz.f141 Tryz.f142 Tryz.f143 Tryz.f144 Tryz.f145 Tryz.f146 Tryz.f147 Tryz.f148 Tryz.f150 Tryz.f151 Tryz.f152 Tryz.f153 Tryz.f154 Tryz.f155 Tryz.f156 Tryz.f157 Tryz.f158 Tryz.f159 Tryz.f160 Tryz.f161 Tryz.f162 Tryz.f163 Tryz.f164 Tryz.f165 Tryz.f166 Tryz.f167 Tryz.f168 Tryz.f169 Tryz.f170 Tryz.f171 Tryz.f172 Tryz.f173 Tryz.f174 Tryz.f175 Tryz.f176 Tryz.f177 Tryz.f178 Tryz.f179
abbrev f_slices_Sort_string_string : Nat := 61
abbrev f_slices_Compact_string_string : Nat := 62
abbrev f_head_Head_Text : Nat := 40
noncomputable def K : Cfg := cfgx Tryz.prog [7, 9, 10, 32, 33, 34, 35, 36, 37, 38, 39, 41, 42, 44, 45, 46, 58, 59, 60, 63, 64, 67, 68, 69, 70, 71, 72, 73, 74, 75, 76, 77, 78, 87, 88, 89, 90, 91, 92, 93, 94, 95, 96, 97, 98, 99, 100, 101, 102, 104, 114, 117, 118, 119, 120, 121, 122, 123, 124, 125, 126, 127, 128, 129, 130, 131, 132, 139, 140, 141, 142, 143, 144, 145, 146, 147, 148, 150, 151, 152, 153, 154, 155, 156, 157, 158, 159, 160, 161, 162, 163, 164, 165, 166, 167, 168, 169, 170, 171, 172, 173, 174, 175, 176, 177, 178, 179] [(7, 10), (32, 22), (33, 27), (119, 14), (121, 1), (122, 1), (127, 2), (127, 3), (142, 4), (143, 1), (144, 1), (146, 1), (152, 3), (152, 6), (153, 4), (156, 1), (163, 7), (166, 9)] [(32, (6, [(5, 7)])), (32, (13, [(5, 7)])), (32, (15, [(5, 10), (8, 10), (8, 12)])), (131, (7, [(9, 12)])), (161, (9, [(1, 2)])), (163, (4, [(1, 2)])), (163, (9, [(1, 2)]))] [law23.awake] [X1.sortX, X1.compX, X1.textX]
attribute [go_sem] Nat.add_eq_left Nat.left_eq_add
@[go_sem] theorem KP : K.P = Tryz.prog := rfl
@[go_sem] theorem KD {f r : Nat} : K.dy f r = dyAt [(32, (6, [(5, 7)])), (32, (13, [(5, 7)])), (32, (15, [(5, 10), (8, 10), (8, 12)])), (131, (7, [(9, 12)])), (161, (9, [(1, 2)])), (163, (4, [(1, 2)])), (163, (9, [(1, 2)]))] f r := rfl
theorem Kok : CfgOK K := cfgx_ok (by decide +kernel) (by decide +kernel)
theorem law23_awake_runs (h : Heap) : Runs K 28 #[] h fun v _ => v = .bool true := ⟨1, .bool true, h, rfl, Ext.refl h, rfl⟩
attribute [go_sem] Tryz.underlying22
@[go_sem] theorem ac_58 : acells Tryz.prog 58 = some ([.string ByteArray.empty, .string ByteArray.empty, .string ByteArray.empty, .string ByteArray.empty, .slice none 0 0], 5) := by kernel_rfl
@[go_sem] theorem ts_58 : tsize Tryz.prog 58 = some 5 := by kernel_rfl
@[go_sem] theorem ac_61 : acells Tryz.prog 61 = some ([.string ByteArray.empty, .string ByteArray.empty, .string ByteArray.empty, .string ByteArray.empty, .slice none 0 0], 5) := by kernel_rfl
@[go_sem] theorem ts_61 : tsize Tryz.prog 61 = some 5 := by kernel_rfl
@[go_sem] theorem fo_61_3 : foff Tryz.prog 61 3 = some 3 := by kernel_rfl
@[go_sem] theorem tc_9 : tcell Tryz.prog 9 = some none := by kernel_rfl
@[go_sem] theorem fo_61_2 : foff Tryz.prog 61 2 = some 2 := by kernel_rfl
@[go_sem] theorem tc_58 : tcell Tryz.prog 58 = some (some 5) := by kernel_rfl
@[go_sem] theorem tc_61 : tcell Tryz.prog 61 = some (some 5) := by kernel_rfl
attribute [go_sem] Tryz.underlying4
@[go_sem] theorem bd_81 {ps : List (Nat × Value)} : ibuild Tryz.prog 81 ps = blt [(0, 1), (1, 1), (2, 1)] [.slice none 0 0, .int .i64 0, .slice none 0 0] ps := ibuild_of (by kernel_rfl)
@[go_sem] theorem ts_81 : tsize Tryz.prog 81 = some 3 := by kernel_rfl
@[go_sem] theorem fo_81_1 : foff Tryz.prog 81 1 = some 1 := by kernel_rfl
@[go_sem] theorem tc_3 : tcell Tryz.prog 3 = some none := by kernel_rfl
@[go_sem] theorem el_22 : elts Tryz.prog 22 = some (.slice 1) := by kernel_rfl
@[go_sem] theorem tc_21 : tcell Tryz.prog 21 = some none := by kernel_rfl
@[go_sem] theorem fo_81_2 : foff Tryz.prog 81 2 = some 2 := by kernel_rfl
@[go_sem] theorem tc_24 : tcell Tryz.prog 24 = some none := by kernel_rfl
@[go_sem] theorem ac_87 : acells Tryz.prog 87 = some ([.int .i64 0, .int .i64 0, .string ByteArray.empty, .int .i32 0, .slice none 0 0, .bool false, .slice none 0 0, .slice none 0 0], 8) := by kernel_rfl
@[go_sem] theorem ts_87 : tsize Tryz.prog 87 = some 8 := by kernel_rfl
@[go_sem] theorem tc_87 : tcell Tryz.prog 87 = some (some 8) := by kernel_rfl
@[go_sem] theorem bs_27_1 {sz : Nat} {ps : Array (Nat × Operand)} {ρ : Operand → Value} : iop0 Tryz.prog sz (.buildSlice 27 1 ps) ρ = bsl sz 1 8 [.int .i64 0, .int .i64 0, .string ByteArray.empty, .int .i32 0, .slice none 0 0, .bool false, .slice none 0 0, .slice none 0 0] (ps.toList.map fun p => (p.1, ρ p.2)) := iop0_buildSlice_of (by kernel_rfl)
@[go_sem] theorem ap_27_27 {low : Nat} {h : Heap} {s : Value} {a : Option Addr} {k c : Nat} : iappend Tryz.prog low h #[27, 27] s (.slice a k c) = iapp low h 8 120 s k (islice h 8 (.slice a k c)) := iappend_slice (by kernel_rfl) Tryz.underlying27
@[go_sem] theorem bd_58 {ps : List (Nat × Value)} : ibuild Tryz.prog 58 ps = blt [(0, 1), (1, 1), (2, 1), (3, 1), (4, 1)] [.string ByteArray.empty, .string ByteArray.empty, .string ByteArray.empty, .string ByteArray.empty, .slice none 0 0] ps := ibuild_of (by kernel_rfl)
attribute [go_sem] Tryz.underlying24
@[go_sem] theorem el_24 : elts Tryz.prog 24 = some (.slice 9) := by kernel_rfl
@[go_sem] theorem fo_77_0 : foff Tryz.prog 77 0 = some 0 := by kernel_rfl
@[go_sem] theorem tc_77 : tcell Tryz.prog 77 = some (some 9) := by kernel_rfl
@[go_sem] theorem fo_77_2 : foff Tryz.prog 77 2 = some 2 := by kernel_rfl
@[go_sem] theorem fo_58_1 : foff Tryz.prog 58 1 = some 1 := by kernel_rfl
@[go_sem] theorem ts_9 : tsize Tryz.prog 9 = some 1 := by kernel_rfl
attribute [go_sem] Tryz.underlying56
@[go_sem] theorem el_56 : elts Tryz.prog 56 = some (.slice 1) := by kernel_rfl
@[go_sem] theorem fo_58_0 : foff Tryz.prog 58 0 = some 0 := by kernel_rfl
@[go_sem] theorem fo_58_3 : foff Tryz.prog 58 3 = some 3 := by kernel_rfl
@[go_sem] theorem fo_58_2 : foff Tryz.prog 58 2 = some 2 := by kernel_rfl
@[go_sem] theorem fo_58_4 : foff Tryz.prog 58 4 = some 4 := by kernel_rfl
@[go_sem] theorem tc_56 : tcell Tryz.prog 56 = some none := by kernel_rfl
@[go_sem] theorem bs_56_1 {sz : Nat} {ps : Array (Nat × Operand)} {ρ : Operand → Value} : iop0 Tryz.prog sz (.buildSlice 56 1 ps) ρ = bsl sz 1 1 [.string ByteArray.empty] (ps.toList.map fun p => (p.1, ρ p.2)) := iop0_buildSlice_of (by kernel_rfl)
@[go_sem] theorem ap_56_56 {low : Nat} {h : Heap} {s : Value} {a : Option Addr} {k c : Nat} : iappend Tryz.prog low h #[56, 56] s (.slice a k c) = iapp low h 1 16 s k (islice h 1 (.slice a k c)) := iappend_slice (by kernel_rfl) Tryz.underlying56
@[go_sem] theorem ts_56 : tsize Tryz.prog 56 = some 1 := by kernel_rfl
@[go_sem] theorem bd_61 {ps : List (Nat × Value)} : ibuild Tryz.prog 61 ps = blt [(0, 1), (1, 1), (2, 1), (3, 1), (4, 1)] [.string ByteArray.empty, .string ByteArray.empty, .string ByteArray.empty, .string ByteArray.empty, .slice none 0 0] ps := ibuild_of (by kernel_rfl)
attribute [go_sem] Tryz.underlying27
@[go_sem] theorem el_27 : elts Tryz.prog 27 = some (.slice 8) := by kernel_rfl
@[go_sem] theorem fo_87_2 : foff Tryz.prog 87 2 = some 2 := by kernel_rfl
@[go_sem] theorem fo_61_1 : foff Tryz.prog 61 1 = some 1 := by kernel_rfl
@[go_sem] theorem fo_61_0 : foff Tryz.prog 61 0 = some 0 := by kernel_rfl
@[go_sem] theorem fo_61_4 : foff Tryz.prog 61 4 = some 4 := by kernel_rfl
@[go_sem] theorem bs_56_3 {sz : Nat} {ps : Array (Nat × Operand)} {ρ : Operand → Value} : iop0 Tryz.prog sz (.buildSlice 56 3 ps) ρ = bsl sz 3 1 [.string ByteArray.empty, .string ByteArray.empty, .string ByteArray.empty] (ps.toList.map fun p => (p.1, ρ p.2)) := iop0_buildSlice_of (by kernel_rfl)
@[go_sem] theorem ts_77 : tsize Tryz.prog 77 = some 9 := by kernel_rfl
@[go_sem] theorem fo_77_3 : foff Tryz.prog 77 3 = some 3 := by kernel_rfl
@[go_sem] theorem fo_81_0 : foff Tryz.prog 81 0 = some 0 := by kernel_rfl
@[go_sem] theorem tc_22 : tcell Tryz.prog 22 = some none := by kernel_rfl
@[go_sem] theorem ts_3 : tsize Tryz.prog 3 = some 1 := by kernel_rfl
@[go_sem] theorem bd_77 {ps : List (Nat × Value)} : ibuild Tryz.prog 77 ps = blt [(0, 1), (1, 1), (2, 1), (3, 1), (4, 5)] [.int .i64 0, .int .i64 0, .string ByteArray.empty, .int .i32 0, .slice none 0 0, .bool false, .slice none 0 0, .slice none 0 0, .bool false] ps := ibuild_of (by kernel_rfl)
@[go_sem] theorem bd_87 {ps : List (Nat × Value)} : ibuild Tryz.prog 87 ps = blt [(0, 1), (1, 1), (2, 1), (3, 1), (4, 4)] [.int .i64 0, .int .i64 0, .string ByteArray.empty, .int .i32 0, .slice none 0 0, .bool false, .slice none 0 0, .slice none 0 0] ps := ibuild_of (by kernel_rfl)
@[go_sem] theorem fo_87_0 : foff Tryz.prog 87 0 = some 0 := by kernel_rfl
@[go_sem] theorem fo_87_4 : foff Tryz.prog 87 4 = some 4 := by kernel_rfl
@[go_sem] theorem ts_85 : tsize Tryz.prog 85 = some 4 := by kernel_rfl
attribute [go_sem] Tryz.underlying9
@[go_sem] theorem cv_22_9 {h : Heap} {a : Option Addr} {n c : Nat} : iconvert Tryz.prog h 22 9 (.slice a n c) = icvs (some .i32) (islice h 1 (.slice a n c)) h := iconvert_slice (by kernel_rfl) Tryz.underlying9
@[go_sem] theorem fo_87_3 : foff Tryz.prog 87 3 = some 3 := by kernel_rfl
@[go_sem] theorem ts_21 : tsize Tryz.prog 21 = some 1 := by kernel_rfl
@[go_sem] theorem ac_77 : acells Tryz.prog 77 = some ([.int .i64 0, .int .i64 0, .string ByteArray.empty, .int .i32 0, .slice none 0 0, .bool false, .slice none 0 0, .slice none 0 0, .bool false], 9) := by kernel_rfl
@[go_sem] theorem bs_56_0 {sz : Nat} {ps : Array (Nat × Operand)} {ρ : Operand → Value} : iop0 Tryz.prog sz (.buildSlice 56 0 ps) ρ = bsl sz 0 1 [] (ps.toList.map fun p => (p.1, ρ p.2)) := iop0_buildSlice_of (by kernel_rfl)
@[go_sem] theorem ac_132 : acells Tryz.prog 132 = some ([.slice none 0 0, .bool false, .slice none 0 0], 3) := by kernel_rfl
@[go_sem] theorem ts_132 : tsize Tryz.prog 132 = some 3 := by kernel_rfl
@[go_sem] theorem tc_132 : tcell Tryz.prog 132 = some (some 3) := by kernel_rfl
@[go_sem] theorem bs_73_1 {sz : Nat} {ps : Array (Nat × Operand)} {ρ : Operand → Value} : iop0 Tryz.prog sz (.buildSlice 73 1 ps) ρ = bsl sz 1 3 [.slice none 0 0, .bool false, .slice none 0 0] (ps.toList.map fun p => (p.1, ρ p.2)) := iop0_buildSlice_of (by kernel_rfl)
@[go_sem] theorem ap_73_73 {low : Nat} {h : Heap} {s : Value} {a : Option Addr} {k c : Nat} : iappend Tryz.prog low h #[73, 73] s (.slice a k c) = iapp low h 3 56 s k (islice h 3 (.slice a k c)) := iappend_slice (by kernel_rfl) Tryz.underlying73
attribute [go_sem] Tryz.underlying73
@[go_sem] theorem el_73 : elts Tryz.prog 73 = some (.slice 3) := by kernel_rfl
@[go_sem] theorem bs_72_1 {sz : Nat} {ps : Array (Nat × Operand)} {ρ : Operand → Value} : iop0 Tryz.prog sz (.buildSlice 72 1 ps) ρ = bsl sz 1 1 [.int .i64 0] (ps.toList.map fun p => (p.1, ρ p.2)) := iop0_buildSlice_of (by kernel_rfl)
@[go_sem] theorem ac_75 : acells Tryz.prog 75 = some ([.slice none 0 0, .bool false, .slice none 0 0, .slice none 0 0, .bool false], 5) := by kernel_rfl
@[go_sem] theorem ts_75 : tsize Tryz.prog 75 = some 5 := by kernel_rfl
@[go_sem] theorem tc_75 : tcell Tryz.prog 75 = some (some 5) := by kernel_rfl
@[go_sem] theorem bs_22_1 {sz : Nat} {ps : Array (Nat × Operand)} {ρ : Operand → Value} : iop0 Tryz.prog sz (.buildSlice 22 1 ps) ρ = bsl sz 1 1 [.int .i32 0] (ps.toList.map fun p => (p.1, ρ p.2)) := iop0_buildSlice_of (by kernel_rfl)
@[go_sem] theorem ap_22_22 {low : Nat} {h : Heap} {s : Value} {a : Option Addr} {k c : Nat} : iappend Tryz.prog low h #[22, 22] s (.slice a k c) = iapp low h 1 4 s k (islice h 1 (.slice a k c)) := iappend_slice (by kernel_rfl) Tryz.underlying22
@[go_sem] theorem fo_77_1 : foff Tryz.prog 77 1 = some 1 := by kernel_rfl
@[go_sem] theorem bs_24_1 {sz : Nat} {ps : Array (Nat × Operand)} {ρ : Operand → Value} : iop0 Tryz.prog sz (.buildSlice 24 1 ps) ρ = bsl sz 1 9 [.int .i64 0, .int .i64 0, .string ByteArray.empty, .int .i32 0, .slice none 0 0, .bool false, .slice none 0 0, .slice none 0 0, .bool false] (ps.toList.map fun p => (p.1, ρ p.2)) := iop0_buildSlice_of (by kernel_rfl)
@[go_sem] theorem ap_24_24 {low : Nat} {h : Heap} {s : Value} {a : Option Addr} {k c : Nat} : iappend Tryz.prog low h #[24, 24] s (.slice a k c) = iapp low h 9 128 s k (islice h 9 (.slice a k c)) := iappend_slice (by kernel_rfl) Tryz.underlying24
@[go_sem] theorem ts_24 : tsize Tryz.prog 24 = some 1 := by kernel_rfl
@[go_sem] theorem ac_85 : acells Tryz.prog 85 = some ([.slice none 0 0, .bool false, .slice none 0 0, .slice none 0 0], 4) := by kernel_rfl
@[go_sem] theorem ac_123 : acells Tryz.prog 123 = some ([.bool false, .string ByteArray.empty, .string ByteArray.empty], 3) := by kernel_rfl
@[go_sem] theorem ts_123 : tsize Tryz.prog 123 = some 3 := by kernel_rfl
@[go_sem] theorem tc_85 : tcell Tryz.prog 85 = some (some 4) := by kernel_rfl
@[go_sem] theorem fo_85_3 : foff Tryz.prog 85 3 = some 3 := by kernel_rfl
@[go_sem] theorem tc_83 : tcell Tryz.prog 83 = some none := by kernel_rfl
@[go_sem] theorem tc_123 : tcell Tryz.prog 123 = some (some 3) := by kernel_rfl
@[go_sem] theorem bs_83_1 {sz : Nat} {ps : Array (Nat × Operand)} {ρ : Operand → Value} : iop0 Tryz.prog sz (.buildSlice 83 1 ps) ρ = bsl sz 1 3 [.bool false, .string ByteArray.empty, .string ByteArray.empty] (ps.toList.map fun p => (p.1, ρ p.2)) := iop0_buildSlice_of (by kernel_rfl)
@[go_sem] theorem ap_83_83 {low : Nat} {h : Heap} {s : Value} {a : Option Addr} {k c : Nat} : iappend Tryz.prog low h #[83, 83] s (.slice a k c) = iapp low h 3 40 s k (islice h 3 (.slice a k c)) := iappend_slice (by kernel_rfl) Tryz.underlying83
@[go_sem] theorem ts_83 : tsize Tryz.prog 83 = some 1 := by kernel_rfl
attribute [go_sem] Tryz.underlying83
@[go_sem] theorem fo_85_0 : foff Tryz.prog 85 0 = some 0 := by kernel_rfl
@[go_sem] theorem ts_72 : tsize Tryz.prog 72 = some 1 := by kernel_rfl
@[go_sem] theorem bd_85 {ps : List (Nat × Value)} : ibuild Tryz.prog 85 ps = blt [(0, 1), (1, 1), (2, 1), (3, 1)] [.slice none 0 0, .bool false, .slice none 0 0, .slice none 0 0] ps := ibuild_of (by kernel_rfl)
@[go_sem] theorem fo_85_2 : foff Tryz.prog 85 2 = some 2 := by kernel_rfl
@[go_sem] theorem ts_22 : tsize Tryz.prog 22 = some 1 := by kernel_rfl
@[go_sem] theorem bd_132 {ps : List (Nat × Value)} : ibuild Tryz.prog 132 ps = blt [(0, 2), (2, 1)] [.slice none 0 0, .bool false, .slice none 0 0] ps := ibuild_of (by kernel_rfl)
@[go_sem] theorem ac_128 : acells Tryz.prog 128 = some ([.slice none 0 0], 1) := by kernel_rfl
@[go_sem] theorem ts_128 : tsize Tryz.prog 128 = some 1 := by kernel_rfl
@[go_sem] theorem tc_128 : tcell Tryz.prog 128 = some (some 1) := by kernel_rfl
@[go_sem] theorem bd_75 {ps : List (Nat × Value)} : ibuild Tryz.prog 75 ps = blt [(0, 1), (1, 1), (2, 1), (3, 1), (4, 1)] [.slice none 0 0, .bool false, .slice none 0 0, .slice none 0 0, .bool false] ps := ibuild_of (by kernel_rfl)
@[go_sem] theorem bs_22_22 {sz : Nat} {ps : Array (Nat × Operand)} {ρ : Operand → Value} : iop0 Tryz.prog sz (.buildSlice 22 22 ps) ρ = bsl sz 22 1 [.int .i32 0, .int .i32 0, .int .i32 0, .int .i32 0, .int .i32 0, .int .i32 0, .int .i32 0, .int .i32 0, .int .i32 0, .int .i32 0, .int .i32 0, .int .i32 0, .int .i32 0, .int .i32 0, .int .i32 0, .int .i32 0, .int .i32 0, .int .i32 0, .int .i32 0, .int .i32 0, .int .i32 0, .int .i32 0] (ps.toList.map fun p => (p.1, ρ p.2)) := iop0_buildSlice_of (by kernel_rfl)
@[go_sem] theorem bs_22_17 {sz : Nat} {ps : Array (Nat × Operand)} {ρ : Operand → Value} : iop0 Tryz.prog sz (.buildSlice 22 17 ps) ρ = bsl sz 17 1 [.int .i32 0, .int .i32 0, .int .i32 0, .int .i32 0, .int .i32 0, .int .i32 0, .int .i32 0, .int .i32 0, .int .i32 0, .int .i32 0, .int .i32 0, .int .i32 0, .int .i32 0, .int .i32 0, .int .i32 0, .int .i32 0, .int .i32 0] (ps.toList.map fun p => (p.1, ρ p.2)) := iop0_buildSlice_of (by kernel_rfl)
@[go_sem] theorem bs_22_4 {sz : Nat} {ps : Array (Nat × Operand)} {ρ : Operand → Value} : iop0 Tryz.prog sz (.buildSlice 22 4 ps) ρ = bsl sz 4 1 [.int .i32 0, .int .i32 0, .int .i32 0, .int .i32 0] (ps.toList.map fun p => (p.1, ρ p.2)) := iop0_buildSlice_of (by kernel_rfl)
@[go_sem] theorem bs_22_15 {sz : Nat} {ps : Array (Nat × Operand)} {ρ : Operand → Value} : iop0 Tryz.prog sz (.buildSlice 22 15 ps) ρ = bsl sz 15 1 [.int .i32 0, .int .i32 0, .int .i32 0, .int .i32 0, .int .i32 0, .int .i32 0, .int .i32 0, .int .i32 0, .int .i32 0, .int .i32 0, .int .i32 0, .int .i32 0, .int .i32 0, .int .i32 0, .int .i32 0] (ps.toList.map fun p => (p.1, ρ p.2)) := iop0_buildSlice_of (by kernel_rfl)
@[go_sem] theorem bs_22_24 {sz : Nat} {ps : Array (Nat × Operand)} {ρ : Operand → Value} : iop0 Tryz.prog sz (.buildSlice 22 24 ps) ρ = bsl sz 24 1 [.int .i32 0, .int .i32 0, .int .i32 0, .int .i32 0, .int .i32 0, .int .i32 0, .int .i32 0, .int .i32 0, .int .i32 0, .int .i32 0, .int .i32 0, .int .i32 0, .int .i32 0, .int .i32 0, .int .i32 0, .int .i32 0, .int .i32 0, .int .i32 0, .int .i32 0, .int .i32 0, .int .i32 0, .int .i32 0, .int .i32 0, .int .i32 0] (ps.toList.map fun p => (p.1, ρ p.2)) := iop0_buildSlice_of (by kernel_rfl)
attribute [go_sem] Tryz.underlying21
attribute [go_sem] Tryz.underlying3
attribute [go_sem] Tryz.underlying72
@[go_sem] theorem bs_72_0 {sz : Nat} {ps : Array (Nat × Operand)} {ρ : Operand → Value} : iop0 Tryz.prog sz (.buildSlice 72 0 ps) ρ = bsl sz 0 1 [] (ps.toList.map fun p => (p.1, ρ p.2)) := iop0_buildSlice_of (by kernel_rfl)
@[go_sem] theorem ap_72_72 {low : Nat} {h : Heap} {s : Value} {a : Option Addr} {k c : Nat} : iappend Tryz.prog low h #[72, 72] s (.slice a k c) = iapp low h 1 8 s k (islice h 1 (.slice a k c)) := iappend_slice (by kernel_rfl) Tryz.underlying72
@[go_sem] theorem bs_22_0 {sz : Nat} {ps : Array (Nat × Operand)} {ρ : Operand → Value} : iop0 Tryz.prog sz (.buildSlice 22 0 ps) ρ = bsl sz 0 1 [] (ps.toList.map fun p => (p.1, ρ p.2)) := iop0_buildSlice_of (by kernel_rfl)
@[go_sem] theorem ts_130 : tsize Tryz.prog 130 = some 2 := by kernel_rfl
@[go_sem] theorem fo_130_1 : foff Tryz.prog 130 1 = some 1 := by kernel_rfl
@[go_sem] theorem tc_4 : tcell Tryz.prog 4 = some none := by kernel_rfl
@[go_sem] theorem fo_132_1 : foff Tryz.prog 132 1 = some 2 := by kernel_rfl
attribute [go_sem] Tryz.underlying162
attribute [go_sem] Tryz.underlying5
@[go_sem] theorem el_9 : elts Tryz.prog 9 = some .text := by kernel_rfl
attribute [go_sem] Tryz.underlying107
@[go_sem] theorem cv_9_107 {h : Heap} {s : List UInt8} : iconvert Tryz.prog h 9 107 (.string (text s)) = icvt (some .u8) s h := iconvert_text Tryz.underlying9 (by kernel_rfl)
@[go_sem] theorem el_107 : elts Tryz.prog 107 = some (.slice 1) := by kernel_rfl
@[go_sem] theorem tc_5 : tcell Tryz.prog 5 = some none := by kernel_rfl
@[go_sem] theorem bd_128 {ps : List (Nat × Value)} : ibuild Tryz.prog 128 ps = blt [(0, 1)] [.slice none 0 0] ps := ibuild_of (by kernel_rfl)
attribute [go_sem] Tryz.underlying164
@[go_sem] theorem tc_130 : tcell Tryz.prog 130 = some (some 2) := by kernel_rfl
@[go_sem] theorem ac_130 : acells Tryz.prog 130 = some ([.slice none 0 0, .bool false], 2) := by kernel_rfl
@[go_sem] theorem bd_130 {ps : List (Nat × Value)} : ibuild Tryz.prog 130 ps = blt [(0, 1), (1, 1)] [.slice none 0 0, .bool false] ps := ibuild_of (by kernel_rfl)
@[go_sem] theorem el_72 : elts Tryz.prog 72 = some (.slice 1) := by kernel_rfl
@[go_sem] theorem bs_73_0 {sz : Nat} {ps : Array (Nat × Operand)} {ρ : Operand → Value} : iop0 Tryz.prog sz (.buildSlice 73 0 ps) ρ = bsl sz 0 3 [] (ps.toList.map fun p => (p.1, ρ p.2)) := iop0_buildSlice_of (by kernel_rfl)
@[go_sem] theorem bd_123 {ps : List (Nat × Value)} : ibuild Tryz.prog 123 ps = blt [(0, 1), (1, 1), (2, 1)] [.bool false, .string ByteArray.empty, .string ByteArray.empty] ps := ibuild_of (by kernel_rfl)
@[go_sem] theorem ts_181 : tsize Tryz.prog 181 = some 2 := by kernel_rfl
@[go_sem] theorem fo_181_0 : foff Tryz.prog 181 0 = some 0 := by kernel_rfl
@[go_sem] theorem fo_181_1 : foff Tryz.prog 181 1 = some 1 := by kernel_rfl
@[go_sem] theorem ac_181 : acells Tryz.prog 181 = some ([.bool false, .string ByteArray.empty], 2) := by kernel_rfl
@[go_sem] theorem bd_181 {ps : List (Nat × Value)} : ibuild Tryz.prog 181 ps = blt [(0, 1), (1, 1)] [.bool false, .string ByteArray.empty] ps := ibuild_of (by kernel_rfl)
@[go_sem] theorem tc_181 : tcell Tryz.prog 181 = some (some 2) := by kernel_rfl
@[go_sem] theorem fo_128_0 : foff Tryz.prog 128 0 = some 0 := by kernel_rfl
@[go_sem] theorem tc_126 : tcell Tryz.prog 126 = some none := by kernel_rfl
attribute [go_sem] Tryz.underlying126
@[go_sem] theorem mk_126 {sz : Nat} {k k' : IntKind} {l c : Int} : imake Tryz.prog sz 126 (.int k l) (.int k' c) = imk sz 1 4 [.int .u32 0] l c := imake_of (by kernel_rfl)
@[go_sem] theorem el_126 : elts Tryz.prog 126 = some (.slice 1) := by kernel_rfl
@[go_sem] theorem tc_162 : tcell Tryz.prog 162 = some none := by kernel_rfl
@[go_sem] theorem ts_162 : tsize Tryz.prog 162 = some 1 := by kernel_rfl
@[go_sem] theorem bs_126_2 {sz : Nat} {ps : Array (Nat × Operand)} {ρ : Operand → Value} : iop0 Tryz.prog sz (.buildSlice 126 2 ps) ρ = bsl sz 2 1 [.int .u32 0, .int .u32 0] (ps.toList.map fun p => (p.1, ρ p.2)) := iop0_buildSlice_of (by kernel_rfl)
@[go_sem] theorem fo_132_0 : foff Tryz.prog 132 0 = some 0 := by kernel_rfl
@[go_sem] theorem bs_218_1 {sz : Nat} {ps : Array (Nat × Operand)} {ρ : Operand → Value} : iop0 Tryz.prog sz (.buildSlice 218 1 ps) ρ = bsl sz 1 2 [.slice none 0 0, .bool false] (ps.toList.map fun p => (p.1, ρ p.2)) := iop0_buildSlice_of (by kernel_rfl)
@[go_sem] theorem fo_130_0 : foff Tryz.prog 130 0 = some 0 := by kernel_rfl
attribute [go_sem] Tryz.underlying218
@[go_sem] theorem el_218 : elts Tryz.prog 218 = some (.slice 2) := by kernel_rfl
@[go_sem] theorem fo_123_0 : foff Tryz.prog 123 0 = some 0 := by kernel_rfl
@[go_sem] theorem fo_123_1 : foff Tryz.prog 123 1 = some 1 := by kernel_rfl
@[go_sem] theorem fo_123_2 : foff Tryz.prog 123 2 = some 2 := by kernel_rfl
@[go_sem] theorem mk_107 {sz : Nat} {k k' : IntKind} {l c : Int} : imake Tryz.prog sz 107 (.int k l) (.int k' c) = imk sz 1 1 [.int .u8 0] l c := imake_of (by kernel_rfl)
@[go_sem] theorem bs_107_1 {sz : Nat} {ps : Array (Nat × Operand)} {ρ : Operand → Value} : iop0 Tryz.prog sz (.buildSlice 107 1 ps) ρ = bsl sz 1 1 [.int .u8 0] (ps.toList.map fun p => (p.1, ρ p.2)) := iop0_buildSlice_of (by kernel_rfl)
@[go_sem] theorem ap_107_107 {low : Nat} {h : Heap} {s : Value} {a : Option Addr} {k c : Nat} : iappend Tryz.prog low h #[107, 107] s (.slice a k c) = iapp low h 1 1 s k (islice h 1 (.slice a k c)) := iappend_slice (by kernel_rfl) Tryz.underlying107
@[go_sem] theorem cv_107_9 {h : Heap} {a : Option Addr} {n c : Nat} : iconvert Tryz.prog h 107 9 (.slice a n c) = icvs (some .u8) (islice h 1 (.slice a n c)) h := iconvert_slice (by kernel_rfl) Tryz.underlying9
@[go_sem] theorem mk_72 {sz : Nat} {k k' : IntKind} {l c : Int} : imake Tryz.prog sz 72 (.int k l) (.int k' c) = imk sz 1 8 [.int .i64 0] l c := imake_of (by kernel_rfl)
@[go_sem] theorem fp_128_0 : fpart Tryz.prog 128 0 = some (false, 0, 1) := by kernel_rfl
attribute [go_sem] Tryz.underlying136
end Go.Proofs.YtjlaenglmdpboaaGreat.Hd
