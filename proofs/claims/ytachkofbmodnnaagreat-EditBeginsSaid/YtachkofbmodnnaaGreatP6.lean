/- Proved here: parts of the way to DEditBegins (DHd); no condition beyond those that each theorem names. -/
import Derived.Test.YtachkofbmodnnaaGreatP4
import Derived.Test.YtachkofbmodnnaaGreatProg
import Derived.Test.YtachkofbmodnnaaGreatP5
import Derived.KernelRfl
set_option linter.unusedSimpArgs false
set_option linter.unusedVariables false
namespace Go.Proofs.YtachkofbmodnnaaGreat.Hd
open Go Go.Im Go.Proofs Go.RowKit
set_option maxRecDepth 100000
abbrev f_law28_EditBegins : Nat := 5
theorem F_law28_EditBegins : Tryz.prog.funcs[5]? = some Tryz.f5 := Tryz.func5
abbrev f_edit_Number : Nat := 11
theorem F_edit_Number : Tryz.prog.funcs[11]? = some Tryz.f11 := Tryz.func11
abbrev f_ref28_Number : Nat := 12
theorem F_ref28_Number : Tryz.prog.funcs[12]? = some Tryz.f12 := Tryz.func12
abbrev f_law28_short : Nat := 16
theorem F_law28_short : Tryz.prog.funcs[16]? = some Tryz.f16 := Tryz.func16
abbrev f_edit_Begin : Nat := 17
theorem F_edit_Begin : Tryz.prog.funcs[17]? = some Tryz.f17 := Tryz.func17
abbrev f_ref28_Begin : Nat := 18
theorem F_ref28_Begin : Tryz.prog.funcs[18]? = some Tryz.f18 := Tryz.func18
abbrev f_law28_shows : Nat := 19
theorem F_law28_shows : Tryz.prog.funcs[19]? = some Tryz.f19 := Tryz.func19
abbrev f_ref05_Texts : Nat := 23
theorem F_ref05_Texts : Tryz.prog.funcs[23]? = some Tryz.f23 := Tryz.func23
abbrev f_edit_Editor_Make : Nat := 24
theorem F_edit_Editor_Make : Tryz.prog.funcs[24]? = some Tryz.f24 := Tryz.func24
abbrev f_defn_Make : Nat := 25
theorem F_defn_Make : Tryz.prog.funcs[25]? = some Tryz.f25 := Tryz.func25
abbrev f_edit_Editor_Rows : Nat := 28
theorem F_edit_Editor_Rows : Tryz.prog.funcs[28]? = some Tryz.f28 := Tryz.func28
abbrev f_edit_Editor_Prompt : Nat := 29
theorem F_edit_Editor_Prompt : Tryz.prog.funcs[29]? = some Tryz.f29 := Tryz.func29
abbrev f_slices_Reverse_byte_byte : Nat := 31
theorem F_slices_Reverse_byte_byte : Tryz.prog.funcs[31]? = some Tryz.f31 := Tryz.func31
abbrev f_ref28_digits : Nat := 32
theorem F_ref28_digits : Tryz.prog.funcs[32]? = some Tryz.f32 := Tryz.func32
abbrev f_glyph_Trim : Nat := 33
theorem F_glyph_Trim : Tryz.prog.funcs[33]? = some Tryz.f33 := Tryz.func33
abbrev f_ref05_Trim : Nat := 34
theorem F_ref05_Trim : Tryz.prog.funcs[34]? = some Tryz.f34 := Tryz.func34
abbrev f_unicode_utf8_ValidRune : Nat := 35
theorem F_unicode_utf8_ValidRune : Tryz.prog.funcs[35]? = some Tryz.f35 := Tryz.func35
abbrev f_head_Parse : Nat := 36
theorem F_head_Parse : Tryz.prog.funcs[36]? = some Tryz.f36 := Tryz.func36
abbrev f_ref23_Parse : Nat := 38
theorem F_ref23_Parse : Tryz.prog.funcs[38]? = some Tryz.f38 := Tryz.func38
abbrev f_ref23_Text : Nat := 39
theorem F_ref23_Text : Tryz.prog.funcs[39]? = some Tryz.f39 := Tryz.func39
abbrev f_ref24_Make : Nat := 40
theorem F_ref24_Make : Tryz.prog.funcs[40]? = some Tryz.f40 := Tryz.func40
abbrev f_ref28_Editor_Rows : Nat := 41
theorem F_ref28_Editor_Rows : Tryz.prog.funcs[41]? = some Tryz.f41 := Tryz.func41
abbrev f_defn_Defn_Rows : Nat := 42
theorem F_defn_Defn_Rows : Tryz.prog.funcs[42]? = some Tryz.f42 := Tryz.func42
abbrev f_ref24_Rows : Nat := 43
theorem F_ref24_Rows : Tryz.prog.funcs[43]? = some Tryz.f43 := Tryz.func43
abbrev f_head_Head_Names : Nat := 51
theorem F_head_Head_Names : Tryz.prog.funcs[51]? = some Tryz.f51 := Tryz.func51
abbrev f_token_Lex : Nat := 52
theorem F_token_Lex : Tryz.prog.funcs[52]? = some Tryz.f52 := Tryz.func52
abbrev f_head_Label : Nat := 53
theorem F_head_Label : Tryz.prog.funcs[53]? = some Tryz.f53 := Tryz.func53
abbrev f_slices_Contains_string_string : Nat := 54
theorem F_slices_Contains_string_string : Tryz.prog.funcs[54]? = some Tryz.f54 := Tryz.func54
abbrev f_token_Token_Is : Nat := 57
theorem F_token_Token_Is : Tryz.prog.funcs[57]? = some Tryz.f57 := Tryz.func57
abbrev f_head_names : Nat := 58
theorem F_head_names : Tryz.prog.funcs[58]? = some Tryz.f58 := Tryz.func58
abbrev f_slices_Clone_string_string : Nat := 61
theorem F_slices_Clone_string_string : Tryz.prog.funcs[61]? = some Tryz.f61 := Tryz.func61
abbrev f_ref22_Lex : Nat := 64
theorem F_ref22_Lex : Tryz.prog.funcs[64]? = some Tryz.f64 := Tryz.func64
abbrev f_ref23_name : Nat := 65
theorem F_ref23_name : Tryz.prog.funcs[65]? = some Tryz.f65 := Tryz.func65
abbrev f_ref22_Is : Nat := 66
theorem F_ref22_Is : Tryz.prog.funcs[66]? = some Tryz.f66 := Tryz.func66
abbrev f_ref23_apart : Nat := 67
theorem F_ref23_apart : Tryz.prog.funcs[67]? = some Tryz.f67 := Tryz.func67
abbrev f_ref23_Names : Nat := 68
theorem F_ref23_Names : Tryz.prog.funcs[68]? = some Tryz.f68 := Tryz.func68
abbrev f_ref23_Label : Nat := 69
theorem F_ref23_Label : Tryz.prog.funcs[69]? = some Tryz.f69 := Tryz.func69
abbrev f_ref24_has : Nat := 70
theorem F_ref24_has : Tryz.prog.funcs[70]? = some Tryz.f70 := Tryz.func70
abbrev f_token_lexer_next : Nat := 79
theorem F_token_lexer_next : Tryz.prog.funcs[79]? = some Tryz.f79 := Tryz.func79
abbrev f_slices_Index_string_string : Nat := 80
theorem F_slices_Index_string_string : Tryz.prog.funcs[80]? = some Tryz.f80 := Tryz.func80
abbrev f_ref22_blanks : Nat := 84
theorem F_ref22_blanks : Tryz.prog.funcs[84]? = some Tryz.f84 := Tryz.func84
abbrev f_ref22_One : Nat := 85
theorem F_ref22_One : Tryz.prog.funcs[85]? = some Tryz.f85 := Tryz.func85
abbrev f_glyph_Kind : Nat := 90
theorem F_glyph_Kind : Tryz.prog.funcs[90]? = some Tryz.f90 := Tryz.func90
abbrev f_deci_Begins : Nat := 91
theorem F_deci_Begins : Tryz.prog.funcs[91]? = some Tryz.f91 := Tryz.func91
abbrev f_token_lexer_numbers : Nat := 92
theorem F_token_lexer_numbers : Tryz.prog.funcs[92]? = some Tryz.f92 := Tryz.func92
abbrev f_token_lexer_word : Nat := 93
theorem F_token_lexer_word : Tryz.prog.funcs[93]? = some Tryz.f93 := Tryz.func93
abbrev f_token_lexer_text : Nat := 94
theorem F_token_lexer_text : Tryz.prog.funcs[94]? = some Tryz.f94 := Tryz.func94
abbrev f_token_lexer_add : Nat := 95
theorem F_token_lexer_add : Tryz.prog.funcs[95]? = some Tryz.f95 := Tryz.func95
abbrev f_bits_Len32 : Nat := 105
theorem F_bits_Len32 : Tryz.prog.funcs[105]? = some Tryz.f105 := Tryz.func105
abbrev f_ref05_Kind : Nat := 108
theorem F_ref05_Kind : Tryz.prog.funcs[108]? = some Tryz.f108 := Tryz.func108
abbrev f_ref04_Begins : Nat := 109
theorem F_ref04_Begins : Tryz.prog.funcs[109]? = some Tryz.f109 := Tryz.func109
abbrev f_ref22_numbers : Nat := 110
theorem F_ref22_numbers : Tryz.prog.funcs[110]? = some Tryz.f110 := Tryz.func110
abbrev f_ref22_text : Nat := 111
theorem F_ref22_text : Tryz.prog.funcs[111]? = some Tryz.f111 := Tryz.func111
abbrev f_ref22_word : Nat := 112
theorem F_ref22_word : Tryz.prog.funcs[112]? = some Tryz.f112 := Tryz.func112
abbrev f_ref05_Name : Nat := 113
theorem F_ref05_Name : Tryz.prog.funcs[113]? = some Tryz.f113 := Tryz.func113
abbrev f_glyph_in : Nat := 115
theorem F_glyph_in : Tryz.prog.funcs[115]? = some Tryz.f115 := Tryz.func115
abbrev f_deci_digit : Nat := 116
theorem F_deci_digit : Tryz.prog.funcs[116]? = some Tryz.f116 := Tryz.func116
abbrev f_deci_Read : Nat := 117
theorem F_deci_Read : Tryz.prog.funcs[117]? = some Tryz.f117 := Tryz.func117
abbrev f_array_Num : Nat := 118
theorem F_array_Num : Tryz.prog.funcs[118]? = some Tryz.f118 := Tryz.func118
abbrev f_array_Nums : Nat := 119
theorem F_array_Nums : Tryz.prog.funcs[119]? = some Tryz.f119 := Tryz.func119
abbrev f_glyph_Word : Nat := 120
theorem F_glyph_Word : Tryz.prog.funcs[120]? = some Tryz.f120 := Tryz.func120
abbrev f_glyph_Name : Nat := 121
theorem F_glyph_Name : Tryz.prog.funcs[121]? = some Tryz.f121 := Tryz.func121
abbrev f_array_Char : Nat := 122
theorem F_array_Char : Tryz.prog.funcs[122]? = some Tryz.f122 := Tryz.func122
abbrev f_array_Text : Nat := 123
theorem F_array_Text : Tryz.prog.funcs[123]? = some Tryz.f123 := Tryz.func123
abbrev f_ref05_Table : Nat := 130
theorem F_ref05_Table : Tryz.prog.funcs[130]? = some Tryz.f130 := Tryz.func130
abbrev f_ref04_Digit : Nat := 131
theorem F_ref04_Digit : Tryz.prog.funcs[131]? = some Tryz.f131 := Tryz.func131
abbrev f_ref04_Read : Nat := 132
theorem F_ref04_Read : Tryz.prog.funcs[132]? = some Tryz.f132 := Tryz.func132
abbrev f_ref05_Word : Nat := 133
theorem F_ref05_Word : Tryz.prog.funcs[133]? = some Tryz.f133 := Tryz.func133
abbrev f_deci_digits : Nat := 135
theorem F_deci_digits : Tryz.prog.funcs[135]? = some Tryz.f135 := Tryz.func135
abbrev f_deci_exponent : Nat := 136
theorem F_deci_exponent : Tryz.prog.funcs[136]? = some Tryz.f136 := Tryz.func136
abbrev f_nat_Parse : Nat := 137
theorem F_nat_Parse : Tryz.prog.funcs[137]? = some Tryz.f137 := Tryz.func137
abbrev f_deci_scaled : Nat := 138
theorem F_deci_scaled : Tryz.prog.funcs[138]? = some Tryz.f138 := Tryz.func138
abbrev f_ratio_Whole : Nat := 139
theorem F_ratio_Whole : Tryz.prog.funcs[139]? = some Tryz.f139 := Tryz.func139
abbrev f_whole_Of : Nat := 140
theorem F_whole_Of : Tryz.prog.funcs[140]? = some Tryz.f140 := Tryz.func140
abbrev f_array_Count : Nat := 141
theorem F_array_Count : Tryz.prog.funcs[141]? = some Tryz.f141 := Tryz.func141
abbrev f_slices_Clone_int_int : Nat := 142
theorem F_slices_Clone_int_int : Tryz.prog.funcs[142]? = some Tryz.f142 := Tryz.func142
abbrev f_slices_Clone_ratio_Rat_ratio_Rat : Nat := 143
theorem F_slices_Clone_ratio_Rat_ratio_Rat : Tryz.prog.funcs[143]? = some Tryz.f143 := Tryz.func143
abbrev f_slices_Clone_rune_rune : Nat := 144
theorem F_slices_Clone_rune_rune : Tryz.prog.funcs[144]? = some Tryz.f144 := Tryz.func144
abbrev f_ref03_Zero : Nat := 146
theorem F_ref03_Zero : Tryz.prog.funcs[146]? = some Tryz.f146 := Tryz.func146
abbrev f_ref04_run : Nat := 147
theorem F_ref04_run : Tryz.prog.funcs[147]? = some Tryz.f147 := Tryz.func147
abbrev f_ref04_Times10 : Nat := 148
theorem F_ref04_Times10 : Tryz.prog.funcs[148]? = some Tryz.f148 := Tryz.func148
abbrev f_ref03_Whole : Nat := 149
theorem F_ref03_Whole : Tryz.prog.funcs[149]? = some Tryz.f149 := Tryz.func149
abbrev f_ref02_Of : Nat := 150
theorem F_ref02_Of : Tryz.prog.funcs[150]? = some Tryz.f150 := Tryz.func150
abbrev f_nat_Nat_Mul : Nat := 151
theorem F_nat_Nat_Mul : Tryz.prog.funcs[151]? = some Tryz.f151 := Tryz.func151
abbrev f_nat_Of : Nat := 152
theorem F_nat_Of : Tryz.prog.funcs[152]? = some Tryz.f152 := Tryz.func152
abbrev f_nat_Nat_Add : Nat := 153
theorem F_nat_Nat_Add : Tryz.prog.funcs[153]? = some Tryz.f153 := Tryz.func153
abbrev f_deci_ten : Nat := 154
theorem F_deci_ten : Tryz.prog.funcs[154]? = some Tryz.f154 := Tryz.func154
abbrev f_ratio_Rat_Times : Nat := 155
theorem F_ratio_Rat_Times : Tryz.prog.funcs[155]? = some Tryz.f155 := Tryz.func155
abbrev f_ratio_Rat_By : Nat := 156
theorem F_ratio_Rat_By : Tryz.prog.funcs[156]? = some Tryz.f156 := Tryz.func156
abbrev f_nat_Nat_Zero : Nat := 157
theorem F_nat_Nat_Zero : Tryz.prog.funcs[157]? = some Tryz.f157 := Tryz.func157
abbrev f_ref03_Mul : Nat := 158
theorem F_ref03_Mul : Tryz.prog.funcs[158]? = some Tryz.f158 := Tryz.func158
abbrev f_ref04_zeros : Nat := 159
theorem F_ref04_zeros : Tryz.prog.funcs[159]? = some Tryz.f159 := Tryz.func159
abbrev f_ref03_Div : Nat := 160
theorem F_ref03_Div : Tryz.prog.funcs[160]? = some Tryz.f160 := Tryz.func160
abbrev f_ref01_Trim : Nat := 161
theorem F_ref01_Trim : Tryz.prog.funcs[161]? = some Tryz.f161 := Tryz.func161
abbrev f_nat_trim : Nat := 162
theorem F_nat_trim : Tryz.prog.funcs[162]? = some Tryz.f162 := Tryz.func162
abbrev f_bits_Add32 : Nat := 163
theorem F_bits_Add32 : Tryz.prog.funcs[163]? = some Tryz.f163 := Tryz.func163
abbrev f_nat_Nat_Pow : Nat := 164
theorem F_nat_Nat_Pow : Tryz.prog.funcs[164]? = some Tryz.f164 := Tryz.func164
abbrev f_ratio_New : Nat := 165
theorem F_ratio_New : Tryz.prog.funcs[165]? = some Tryz.f165 := Tryz.func165
abbrev f_whole_Int_Times : Nat := 166
theorem F_whole_Int_Times : Tryz.prog.funcs[166]? = some Tryz.f166 := Tryz.func166
abbrev f_ratio_Rat_under : Nat := 167
theorem F_ratio_Rat_under : Tryz.prog.funcs[167]? = some Tryz.f167 := Tryz.func167
abbrev f_ref03_New : Nat := 168
theorem F_ref03_New : Tryz.prog.funcs[168]? = some Tryz.f168 := Tryz.func168
abbrev f_ref02_Mul : Nat := 169
theorem F_ref02_Mul : Tryz.prog.funcs[169]? = some Tryz.f169 := Tryz.func169
abbrev f_ref03_Top : Nat := 170
theorem F_ref03_Top : Tryz.prog.funcs[170]? = some Tryz.f170 := Tryz.func170
abbrev f_ref03_Bot : Nat := 171
theorem F_ref03_Bot : Tryz.prog.funcs[171]? = some Tryz.f171 := Tryz.func171
abbrev f_nat_Nat_One : Nat := 172
theorem F_nat_Nat_One : Tryz.prog.funcs[172]? = some Tryz.f172 := Tryz.func172
abbrev f_nat_Nat_Limbs : Nat := 173
theorem F_nat_Nat_Limbs : Tryz.prog.funcs[173]? = some Tryz.f173 := Tryz.func173
abbrev f_nat_Nat_Gcd : Nat := 174
theorem F_nat_Nat_Gcd : Tryz.prog.funcs[174]? = some Tryz.f174 := Tryz.func174
abbrev f_whole_Int_Size : Nat := 175
theorem F_whole_Int_Size : Tryz.prog.funcs[175]? = some Tryz.f175 := Tryz.func175
abbrev f_nat_Nat_DivMod : Nat := 176
theorem F_nat_Nat_DivMod : Tryz.prog.funcs[176]? = some Tryz.f176 := Tryz.func176
abbrev f_whole_Int_Neg : Nat := 177
theorem F_whole_Int_Neg : Tryz.prog.funcs[177]? = some Tryz.f177 := Tryz.func177
abbrev f_ratio_Rat_down : Nat := 178
theorem F_ratio_Rat_down : Tryz.prog.funcs[178]? = some Tryz.f178 := Tryz.func178
abbrev f_ref01_Gcd : Nat := 179
theorem F_ref01_Gcd : Tryz.prog.funcs[179]? = some Tryz.f179 := Tryz.func179
abbrev f_ref01_DivMod : Nat := 180
theorem F_ref01_DivMod : Tryz.prog.funcs[180]? = some Tryz.f180 := Tryz.func180
abbrev f_ref01_Mul : Nat := 181
theorem F_ref01_Mul : Tryz.prog.funcs[181]? = some Tryz.f181 := Tryz.func181
abbrev f_nat_Nat_Uint : Nat := 182
theorem F_nat_Nat_Uint : Tryz.prog.funcs[182]? = some Tryz.f182 := Tryz.func182
abbrev f_nat_Nat_Cmp : Nat := 183
theorem F_nat_Nat_Cmp : Tryz.prog.funcs[183]? = some Tryz.f183 := Tryz.func183
abbrev f_nat_Nat_small : Nat := 184
theorem F_nat_Nat_small : Tryz.prog.funcs[184]? = some Tryz.f184 := Tryz.func184
abbrev f_nat_long : Nat := 185
theorem F_nat_long : Tryz.prog.funcs[185]? = some Tryz.f185 := Tryz.func185
abbrev f_ref01_Cmp : Nat := 186
theorem F_ref01_Cmp : Tryz.prog.funcs[186]? = some Tryz.f186 := Tryz.func186
abbrev f_ref01_Sub : Nat := 187
theorem F_ref01_Sub : Tryz.prog.funcs[187]? = some Tryz.f187 := Tryz.func187
abbrev f_ref01_digit : Nat := 188
theorem F_ref01_digit : Tryz.prog.funcs[188]? = some Tryz.f188 := Tryz.func188
abbrev f_ref01_written : Nat := 189
theorem F_ref01_written : Tryz.prog.funcs[189]? = some Tryz.f189 := Tryz.func189
abbrev f_bits_LeadingZeros32 : Nat := 190
theorem F_bits_LeadingZeros32 : Tryz.prog.funcs[190]? = some Tryz.f190 := Tryz.func190
abbrev f_nat_Nat_Shl : Nat := 191
theorem F_nat_Nat_Shl : Tryz.prog.funcs[191]? = some Tryz.f191 := Tryz.func191
abbrev f_nat_under : Nat := 192
theorem F_nat_under : Tryz.prog.funcs[192]? = some Tryz.f192 := Tryz.func192
abbrev f_nat_back : Nat := 193
theorem F_nat_back : Tryz.prog.funcs[193]? = some Tryz.f193 := Tryz.func193
abbrev f_nat_Nat_Shr : Nat := 194
theorem F_nat_Nat_Shr : Tryz.prog.funcs[194]? = some Tryz.f194 := Tryz.func194
abbrev f_bits_Sub32 : Nat := 195
theorem F_bits_Sub32 : Tryz.prog.funcs[195]? = some Tryz.f195 := Tryz.func195
abbrev f_law28_awake : Nat := 8
attribute [go_sem] Tryz.f5 Tryz.f11 Tryz.f12 Tryz.f16 Tryz.f17 Tryz.f18 Tryz.f19 Tryz.f23 Tryz.f24 Tryz.f25 Tryz.f28 Tryz.f29 Tryz.f31 Tryz.f32 Tryz.f33 Tryz.f34 Tryz.f35 Tryz.f36 Tryz.f38 Tryz.f39 Tryz.f40 Tryz.f41 Tryz.f42 Tryz.f43 Tryz.f51 Tryz.f52 Tryz.f53 Tryz.f54 Tryz.f57 Tryz.f58 Tryz.f61 Tryz.f64 Tryz.f65 Tryz.f66 Tryz.f67 Tryz.f68 Tryz.f69 Tryz.f70 Tryz.f79 Tryz.f80 Tryz.f84 Tryz.f85 Tryz.f90 Tryz.f91 Tryz.f92 Tryz.f93 Tryz.f94 Tryz.f95 Tryz.f105 Tryz.f108 Tryz.f109 Tryz.f110 Tryz.f111 Tryz.f112 Tryz.f113 Tryz.f115 Tryz.f116 Tryz.f117 Tryz.f118 Tryz.f119 Tryz.f120 Tryz.f121 Tryz.f122 Tryz.f123 Tryz.f130 Tryz.f131 Tryz.f132 Tryz.f133 Tryz.f135 Tryz.f136 Tryz.f137 Tryz.f138 Tryz.f139 Tryz.f140 Tryz.f141 Tryz.f142 Tryz.f143 Tryz.f144 Tryz.f146 Tryz.f147 Tryz.f148 Tryz.f149 Tryz.f150 Tryz.f151 Tryz.f152 Tryz.f153 Tryz.f154 Tryz.f155 Tryz.f156 Tryz.f157 Tryz.f158 Tryz.f159 Tryz.f160 Tryz.f161 Tryz.f162 Tryz.f163 Tryz.f164 Tryz.f165 Tryz.f166 Tryz.f167 Tryz.f168 Tryz.f169 Tryz.f170 Tryz.f171 Tryz.f172 Tryz.f173 Tryz.f174 Tryz.f175 Tryz.f176 Tryz.f177 Tryz.f178 Tryz.f179 Tryz.f180 Tryz.f181 Tryz.f182 Tryz.f183 Tryz.f184 Tryz.f185 Tryz.f186 Tryz.f187 Tryz.f188 Tryz.f189 Tryz.f190 Tryz.f191 Tryz.f192 Tryz.f193 Tryz.f194 Tryz.f195
abbrev f_slices_Sort_string_string : Nat := 59
abbrev f_slices_Compact_string_string : Nat := 60
abbrev f_head_Head_Text : Nat := 37
noncomputable def K : Cfg := cfgx Tryz.prog [5, 11, 12, 16, 17, 18, 19, 23, 24, 25, 28, 29, 31, 32, 33, 34, 35, 36, 38, 39, 40, 41, 42, 43, 51, 52, 53, 54, 57, 58, 61, 64, 65, 66, 67, 68, 69, 70, 79, 80, 84, 85, 90, 91, 92, 93, 94, 95, 105, 108, 109, 110, 111, 112, 113, 115, 116, 117, 118, 119, 120, 121, 122, 123, 130, 131, 132, 133, 135, 136, 137, 138, 139, 140, 141, 142, 143, 144, 146, 147, 148, 149, 150, 151, 152, 153, 154, 155, 156, 157, 158, 159, 160, 161, 162, 163, 164, 165, 166, 167, 168, 169, 170, 171, 172, 173, 174, 175, 176, 177, 178, 179, 180, 181, 182, 183, 184, 185, 186, 187, 188, 189, 190, 191, 192, 193, 194, 195] [(19, (3, [43, 23])), (19, (5, [12, 28, 41, 23])), (25, (7, [])), (36, (22, [])), (38, (27, [67])), (40, (7, [])), (42, (1, [])), (43, (1, [])), (137, (14, [151, 153])), (139, (1, [])), (140, (1, [])), (148, (2, [158])), (148, (3, [160])), (155, (4, [165])), (156, (1, [165])), (158, (1, [168])), (160, (1, [168])), (165, (3, [174])), (165, (6, [])), (166, (4, [140])), (169, (1, [150])), (176, (7, [])), (181, (9, []))] [(36, (6, [(5, 7)])), (36, (13, [(5, 7)])), (36, (15, [(5, 10), (8, 10), (8, 12)])), (174, (9, [(1, 2)])), (176, (4, [(1, 2)])), (176, (9, [(1, 2)])), (184, (7, [(9, 12)]))] [law28.awake] [X1.sortX, X1.compX, X1.textX]
attribute [go_sem] Nat.add_eq_left Nat.left_eq_add
@[go_sem] theorem KP : K.P = Tryz.prog := rfl
@[go_sem] theorem KD {f r : Nat} : K.dy f r = dyAt [(36, (6, [(5, 7)])), (36, (13, [(5, 7)])), (36, (15, [(5, 10), (8, 10), (8, 12)])), (174, (9, [(1, 2)])), (176, (4, [(1, 2)])), (176, (9, [(1, 2)])), (184, (7, [(9, 12)]))] f r := rfl
theorem Kok : CfgOK K := cfgx_ok (by decide +kernel) (by decide +kernel)
theorem law28_awake_runs (h : Heap) : Runs K 8 #[] h fun v _ => v = .bool true := ⟨1, .bool true, h, rfl, Ext.refl h, rfl⟩
attribute [go_sem] Tryz.underlying4
attribute [go_sem] Tryz.underlying32
@[go_sem] theorem bs_63_1 {sz : Nat} {ps : Array (Nat × Operand)} {ρ : Operand → Value} : iop0 Tryz.prog sz (.buildSlice 63 1 ps) ρ = bsl sz 1 1 [.int .u8 0] (ps.toList.map fun p => (p.1, ρ p.2)) := iop0_buildSlice_of (by kernel_rfl)
attribute [go_sem] Tryz.underlying63
attribute [go_sem] Tryz.underlying3
attribute [go_sem] Tryz.underlying5
@[go_sem] theorem ap_63_63 {low : Nat} {h : Heap} {s : Value} {a : Option Addr} {k c : Nat} : iappend Tryz.prog low h #[63, 63] s (.slice a k c) = iapp low h 1 1 s k (islice h 1 (.slice a k c)) := iappend_slice (by kernel_rfl) Tryz.underlying63
@[go_sem] theorem el_63 : elts Tryz.prog 63 = some (.slice 1) := by kernel_rfl
attribute [go_sem] Tryz.underlying9
@[go_sem] theorem cv_63_9 {h : Heap} {a : Option Addr} {n c : Nat} : iconvert Tryz.prog h 63 9 (.slice a n c) = icvs (some .u8) (islice h 1 (.slice a n c)) h := iconvert_slice (by kernel_rfl) Tryz.underlying9
@[go_sem] theorem el_9 : elts Tryz.prog 9 = some .text := by kernel_rfl
attribute [go_sem] Tryz.underlying22
@[go_sem] theorem el_22 : elts Tryz.prog 22 = some (.slice 1) := by kernel_rfl
@[go_sem] theorem tc_21 : tcell Tryz.prog 21 = some none := by kernel_rfl
@[go_sem] theorem ac_51 : acells Tryz.prog 51 = some ([.string ByteArray.empty, .string ByteArray.empty, .string ByteArray.empty, .string ByteArray.empty, .slice none 0 0], 5) := by kernel_rfl
@[go_sem] theorem ts_51 : tsize Tryz.prog 51 = some 5 := by kernel_rfl
@[go_sem] theorem tc_51 : tcell Tryz.prog 51 = some (some 5) := by kernel_rfl
@[go_sem] theorem bd_69 {ps : List (Nat × Value)} : ibuild Tryz.prog 69 ps = blt [(0, 1), (1, 1)] [.int .i64 0, .string ByteArray.empty] ps := ibuild_of (by kernel_rfl)
@[go_sem] theorem bs_70_1 {sz : Nat} {ps : Array (Nat × Operand)} {ρ : Operand → Value} : iop0 Tryz.prog sz (.buildSlice 70 1 ps) ρ = bsl sz 1 2 [.int .i64 0, .string ByteArray.empty] (ps.toList.map fun p => (p.1, ρ p.2)) := iop0_buildSlice_of (by kernel_rfl)
@[go_sem] theorem bd_72 {ps : List (Nat × Value)} : ibuild Tryz.prog 72 ps = blt [(0, 1), (1, 1)] [.slice none 0 0, .int .i64 0] ps := ibuild_of (by kernel_rfl)
@[go_sem] theorem ts_72 : tsize Tryz.prog 72 = some 2 := by kernel_rfl
@[go_sem] theorem ac_73 : acells Tryz.prog 73 = some ([.string ByteArray.empty, .string ByteArray.empty, .string ByteArray.empty, .string ByteArray.empty, .slice none 0 0], 5) := by kernel_rfl
@[go_sem] theorem ts_73 : tsize Tryz.prog 73 = some 5 := by kernel_rfl
@[go_sem] theorem tc_73 : tcell Tryz.prog 73 = some (some 5) := by kernel_rfl
@[go_sem] theorem bd_78 {ps : List (Nat × Value)} : ibuild Tryz.prog 78 ps = blt [(0, 1), (1, 1)] [.int .i64 0, .string ByteArray.empty] ps := ibuild_of (by kernel_rfl)
@[go_sem] theorem bs_79_1 {sz : Nat} {ps : Array (Nat × Operand)} {ρ : Operand → Value} : iop0 Tryz.prog sz (.buildSlice 79 1 ps) ρ = bsl sz 1 2 [.int .i64 0, .string ByteArray.empty] (ps.toList.map fun p => (p.1, ρ p.2)) := iop0_buildSlice_of (by kernel_rfl)
@[go_sem] theorem bd_81 {ps : List (Nat × Value)} : ibuild Tryz.prog 81 ps = blt [(0, 1), (1, 1)] [.slice none 0 0, .int .i64 0] ps := ibuild_of (by kernel_rfl)
@[go_sem] theorem ts_81 : tsize Tryz.prog 81 = some 2 := by kernel_rfl
@[go_sem] theorem ac_54 : acells Tryz.prog 54 = some ([.string ByteArray.empty, .string ByteArray.empty, .string ByteArray.empty, .string ByteArray.empty, .slice none 0 0, .slice none 0 0, .slice none 0 0], 7) := by kernel_rfl
@[go_sem] theorem ts_54 : tsize Tryz.prog 54 = some 7 := by kernel_rfl
@[go_sem] theorem ac_84 : acells Tryz.prog 84 = some ([.string ByteArray.empty, .string ByteArray.empty, .string ByteArray.empty, .string ByteArray.empty, .slice none 0 0, .slice none 0 0, .slice none 0 0], 7) := by kernel_rfl
@[go_sem] theorem ts_84 : tsize Tryz.prog 84 = some 7 := by kernel_rfl
@[go_sem] theorem tc_54 : tcell Tryz.prog 54 = some (some 7) := by kernel_rfl
@[go_sem] theorem tc_84 : tcell Tryz.prog 84 = some (some 7) := by kernel_rfl
@[go_sem] theorem fo_81_1 : foff Tryz.prog 81 1 = some 1 := by kernel_rfl
@[go_sem] theorem tc_3 : tcell Tryz.prog 3 = some none := by kernel_rfl
attribute [go_sem] Tryz.underlying39
@[go_sem] theorem el_39 : elts Tryz.prog 39 = some (.slice 1) := by kernel_rfl
@[go_sem] theorem tc_9 : tcell Tryz.prog 9 = some none := by kernel_rfl
@[go_sem] theorem bd_54 {ps : List (Nat × Value)} : ibuild Tryz.prog 54 ps = blt [(0, 5), (5, 1), (6, 1)] [.string ByteArray.empty, .string ByteArray.empty, .string ByteArray.empty, .string ByteArray.empty, .slice none 0 0, .slice none 0 0, .slice none 0 0] ps := ibuild_of (by kernel_rfl)
@[go_sem] theorem cv_9_22 {h : Heap} {s : List UInt8} : iconvert Tryz.prog h 9 22 (.string (text s)) = icvt (some .i32) s h := iconvert_text Tryz.underlying9 (by kernel_rfl)
@[go_sem] theorem fo_51_0 : foff Tryz.prog 51 0 = some 0 := by kernel_rfl
@[go_sem] theorem bs_39_1 {sz : Nat} {ps : Array (Nat × Operand)} {ρ : Operand → Value} : iop0 Tryz.prog sz (.buildSlice 39 1 ps) ρ = bsl sz 1 1 [.string ByteArray.empty] (ps.toList.map fun p => (p.1, ρ p.2)) := iop0_buildSlice_of (by kernel_rfl)
@[go_sem] theorem ap_39_39 {low : Nat} {h : Heap} {s : Value} {a : Option Addr} {k c : Nat} : iappend Tryz.prog low h #[39, 39] s (.slice a k c) = iapp low h 1 16 s k (islice h 1 (.slice a k c)) := iappend_slice (by kernel_rfl) Tryz.underlying39
@[go_sem] theorem fo_54_2 : foff Tryz.prog 54 2 = some 6 := by kernel_rfl
@[go_sem] theorem tc_52 : tcell Tryz.prog 52 = some none := by kernel_rfl
@[go_sem] theorem bd_100 {ps : List (Nat × Value)} : ibuild Tryz.prog 100 ps = blt [(0, 1), (1, 1)] [.string ByteArray.empty, .int .i64 0] ps := ibuild_of (by kernel_rfl)
@[go_sem] theorem bs_52_1 {sz : Nat} {ps : Array (Nat × Operand)} {ρ : Operand → Value} : iop0 Tryz.prog sz (.buildSlice 52 1 ps) ρ = bsl sz 1 2 [.string ByteArray.empty, .int .i64 0] (ps.toList.map fun p => (p.1, ρ p.2)) := iop0_buildSlice_of (by kernel_rfl)
@[go_sem] theorem ap_52_52 {low : Nat} {h : Heap} {s : Value} {a : Option Addr} {k c : Nat} : iappend Tryz.prog low h #[52, 52] s (.slice a k c) = iapp low h 2 24 s k (islice h 2 (.slice a k c)) := iappend_slice (by kernel_rfl) Tryz.underlying52
@[go_sem] theorem ts_52 : tsize Tryz.prog 52 = some 1 := by kernel_rfl
@[go_sem] theorem fo_54_1 : foff Tryz.prog 54 1 = some 5 := by kernel_rfl
@[go_sem] theorem tc_39 : tcell Tryz.prog 39 = some none := by kernel_rfl
@[go_sem] theorem cv_22_9 {h : Heap} {a : Option Addr} {n c : Nat} : iconvert Tryz.prog h 22 9 (.slice a n c) = icvs (some .i32) (islice h 1 (.slice a n c)) h := iconvert_slice (by kernel_rfl) Tryz.underlying9
@[go_sem] theorem ts_39 : tsize Tryz.prog 39 = some 1 := by kernel_rfl
@[go_sem] theorem fo_72_0 : foff Tryz.prog 72 0 = some 0 := by kernel_rfl
@[go_sem] theorem tc_70 : tcell Tryz.prog 70 = some none := by kernel_rfl
attribute [go_sem] Tryz.underlying70
@[go_sem] theorem mk_39 {sz : Nat} {k k' : IntKind} {l c : Int} : imake Tryz.prog sz 39 (.int k l) (.int k' c) = imk sz 1 16 [.string ByteArray.empty] l c := imake_of (by kernel_rfl)
@[go_sem] theorem el_70 : elts Tryz.prog 70 = some (.slice 2) := by kernel_rfl
@[go_sem] theorem tc_69 : tcell Tryz.prog 69 = some (some 2) := by kernel_rfl
@[go_sem] theorem ac_69 : acells Tryz.prog 69 = some ([.int .i64 0, .string ByteArray.empty], 2) := by kernel_rfl
@[go_sem] theorem ts_69 : tsize Tryz.prog 69 = some 2 := by kernel_rfl
@[go_sem] theorem fo_69_1 : foff Tryz.prog 69 1 = some 1 := by kernel_rfl
@[go_sem] theorem ts_9 : tsize Tryz.prog 9 = some 1 := by kernel_rfl
@[go_sem] theorem fo_72_1 : foff Tryz.prog 72 1 = some 1 := by kernel_rfl
@[go_sem] theorem tc_5 : tcell Tryz.prog 5 = some none := by kernel_rfl
@[go_sem] theorem ts_5 : tsize Tryz.prog 5 = some 1 := by kernel_rfl
@[go_sem] theorem bd_51 {ps : List (Nat × Value)} : ibuild Tryz.prog 51 ps = blt [(0, 1), (1, 1), (2, 1), (3, 1), (4, 1)] [.string ByteArray.empty, .string ByteArray.empty, .string ByteArray.empty, .string ByteArray.empty, .slice none 0 0] ps := ibuild_of (by kernel_rfl)
attribute [go_sem] Tryz.underlying93
@[go_sem] theorem el_93 : elts Tryz.prog 93 = some (.slice 9) := by kernel_rfl
@[go_sem] theorem fo_107_0 : foff Tryz.prog 107 0 = some 0 := by kernel_rfl
@[go_sem] theorem tc_107 : tcell Tryz.prog 107 = some (some 9) := by kernel_rfl
@[go_sem] theorem fo_107_2 : foff Tryz.prog 107 2 = some 2 := by kernel_rfl
@[go_sem] theorem fo_51_1 : foff Tryz.prog 51 1 = some 1 := by kernel_rfl
@[go_sem] theorem fo_51_3 : foff Tryz.prog 51 3 = some 3 := by kernel_rfl
@[go_sem] theorem fo_51_2 : foff Tryz.prog 51 2 = some 2 := by kernel_rfl
@[go_sem] theorem fo_51_4 : foff Tryz.prog 51 4 = some 4 := by kernel_rfl
@[go_sem] theorem bd_73 {ps : List (Nat × Value)} : ibuild Tryz.prog 73 ps = blt [(0, 1), (1, 1), (2, 1), (3, 1), (4, 1)] [.string ByteArray.empty, .string ByteArray.empty, .string ByteArray.empty, .string ByteArray.empty, .slice none 0 0] ps := ibuild_of (by kernel_rfl)
attribute [go_sem] Tryz.underlying118
@[go_sem] theorem el_118 : elts Tryz.prog 118 = some (.slice 8) := by kernel_rfl
@[go_sem] theorem tc_127 : tcell Tryz.prog 127 = some (some 8) := by kernel_rfl
@[go_sem] theorem fo_127_2 : foff Tryz.prog 127 2 = some 2 := by kernel_rfl
@[go_sem] theorem fo_73_1 : foff Tryz.prog 73 1 = some 1 := by kernel_rfl
@[go_sem] theorem fo_73_2 : foff Tryz.prog 73 2 = some 2 := by kernel_rfl
@[go_sem] theorem fo_73_0 : foff Tryz.prog 73 0 = some 0 := by kernel_rfl
@[go_sem] theorem fo_73_3 : foff Tryz.prog 73 3 = some 3 := by kernel_rfl
@[go_sem] theorem fo_73_4 : foff Tryz.prog 73 4 = some 4 := by kernel_rfl
@[go_sem] theorem bd_84 {ps : List (Nat × Value)} : ibuild Tryz.prog 84 ps = blt [(0, 5), (5, 1), (6, 1)] [.string ByteArray.empty, .string ByteArray.empty, .string ByteArray.empty, .string ByteArray.empty, .slice none 0 0, .slice none 0 0, .slice none 0 0] ps := ibuild_of (by kernel_rfl)
@[go_sem] theorem fo_84_2 : foff Tryz.prog 84 2 = some 6 := by kernel_rfl
@[go_sem] theorem tc_82 : tcell Tryz.prog 82 = some none := by kernel_rfl
@[go_sem] theorem bd_130 {ps : List (Nat × Value)} : ibuild Tryz.prog 130 ps = blt [(0, 1), (1, 1)] [.string ByteArray.empty, .int .i64 0] ps := ibuild_of (by kernel_rfl)
@[go_sem] theorem bs_82_1 {sz : Nat} {ps : Array (Nat × Operand)} {ρ : Operand → Value} : iop0 Tryz.prog sz (.buildSlice 82 1 ps) ρ = bsl sz 1 2 [.string ByteArray.empty, .int .i64 0] (ps.toList.map fun p => (p.1, ρ p.2)) := iop0_buildSlice_of (by kernel_rfl)
@[go_sem] theorem ap_82_82 {low : Nat} {h : Heap} {s : Value} {a : Option Addr} {k c : Nat} : iappend Tryz.prog low h #[82, 82] s (.slice a k c) = iapp low h 2 24 s k (islice h 2 (.slice a k c)) := iappend_slice (by kernel_rfl) Tryz.underlying82
@[go_sem] theorem ts_82 : tsize Tryz.prog 82 = some 1 := by kernel_rfl
@[go_sem] theorem fo_84_1 : foff Tryz.prog 84 1 = some 5 := by kernel_rfl
@[go_sem] theorem fo_81_0 : foff Tryz.prog 81 0 = some 0 := by kernel_rfl
@[go_sem] theorem tc_79 : tcell Tryz.prog 79 = some none := by kernel_rfl
attribute [go_sem] Tryz.underlying79
@[go_sem] theorem el_79 : elts Tryz.prog 79 = some (.slice 2) := by kernel_rfl
@[go_sem] theorem fo_78_1 : foff Tryz.prog 78 1 = some 1 := by kernel_rfl
@[go_sem] theorem fo_54_0 : foff Tryz.prog 54 0 = some 0 := by kernel_rfl
@[go_sem] theorem fo_84_0 : foff Tryz.prog 84 0 = some 0 := by kernel_rfl
@[go_sem] theorem bs_39_3 {sz : Nat} {ps : Array (Nat × Operand)} {ρ : Operand → Value} : iop0 Tryz.prog sz (.buildSlice 39 3 ps) ρ = bsl sz 3 1 [.string ByteArray.empty, .string ByteArray.empty, .string ByteArray.empty] (ps.toList.map fun p => (p.1, ρ p.2)) := iop0_buildSlice_of (by kernel_rfl)
@[go_sem] theorem bd_139 {ps : List (Nat × Value)} : ibuild Tryz.prog 139 ps = blt [(0, 1), (1, 1), (2, 1)] [.slice none 0 0, .int .i64 0, .slice none 0 0] ps := ibuild_of (by kernel_rfl)
@[go_sem] theorem ts_139 : tsize Tryz.prog 139 = some 3 := by kernel_rfl
@[go_sem] theorem fo_139_1 : foff Tryz.prog 139 1 = some 1 := by kernel_rfl
@[go_sem] theorem fo_139_2 : foff Tryz.prog 139 2 = some 2 := by kernel_rfl
@[go_sem] theorem tc_93 : tcell Tryz.prog 93 = some none := by kernel_rfl
@[go_sem] theorem fo_107_1 : foff Tryz.prog 107 1 = some 1 := by kernel_rfl
@[go_sem] theorem ts_107 : tsize Tryz.prog 107 = some 9 := by kernel_rfl
@[go_sem] theorem fo_107_3 : foff Tryz.prog 107 3 = some 3 := by kernel_rfl
@[go_sem] theorem ac_107 : acells Tryz.prog 107 = some ([.int .i64 0, .int .i64 0, .string ByteArray.empty, .int .i32 0, .slice none 0 0, .bool false, .slice none 0 0, .slice none 0 0, .bool false], 9) := by kernel_rfl
@[go_sem] theorem bs_39_0 {sz : Nat} {ps : Array (Nat × Operand)} {ρ : Operand → Value} : iop0 Tryz.prog sz (.buildSlice 39 0 ps) ρ = bsl sz 0 1 [] (ps.toList.map fun p => (p.1, ρ p.2)) := iop0_buildSlice_of (by kernel_rfl)
@[go_sem] theorem ac_127 : acells Tryz.prog 127 = some ([.int .i64 0, .int .i64 0, .string ByteArray.empty, .int .i32 0, .slice none 0 0, .bool false, .slice none 0 0, .slice none 0 0], 8) := by kernel_rfl
@[go_sem] theorem ts_127 : tsize Tryz.prog 127 = some 8 := by kernel_rfl
@[go_sem] theorem bs_118_1 {sz : Nat} {ps : Array (Nat × Operand)} {ρ : Operand → Value} : iop0 Tryz.prog sz (.buildSlice 118 1 ps) ρ = bsl sz 1 8 [.int .i64 0, .int .i64 0, .string ByteArray.empty, .int .i32 0, .slice none 0 0, .bool false, .slice none 0 0, .slice none 0 0] (ps.toList.map fun p => (p.1, ρ p.2)) := iop0_buildSlice_of (by kernel_rfl)
@[go_sem] theorem ap_118_118 {low : Nat} {h : Heap} {s : Value} {a : Option Addr} {k c : Nat} : iappend Tryz.prog low h #[118, 118] s (.slice a k c) = iapp low h 8 120 s k (islice h 8 (.slice a k c)) := iappend_slice (by kernel_rfl) Tryz.underlying118
@[go_sem] theorem fo_127_0 : foff Tryz.prog 127 0 = some 0 := by kernel_rfl
@[go_sem] theorem fo_127_3 : foff Tryz.prog 127 3 = some 3 := by kernel_rfl
@[go_sem] theorem fo_127_1 : foff Tryz.prog 127 1 = some 1 := by kernel_rfl
@[go_sem] theorem fo_139_0 : foff Tryz.prog 139 0 = some 0 := by kernel_rfl
@[go_sem] theorem tc_22 : tcell Tryz.prog 22 = some none := by kernel_rfl
@[go_sem] theorem ts_3 : tsize Tryz.prog 3 = some 1 := by kernel_rfl
@[go_sem] theorem bd_107 {ps : List (Nat × Value)} : ibuild Tryz.prog 107 ps = blt [(0, 1), (1, 1), (2, 1), (3, 1), (4, 5)] [.int .i64 0, .int .i64 0, .string ByteArray.empty, .int .i32 0, .slice none 0 0, .bool false, .slice none 0 0, .slice none 0 0, .bool false] ps := ibuild_of (by kernel_rfl)
@[go_sem] theorem bd_127 {ps : List (Nat × Value)} : ibuild Tryz.prog 127 ps = blt [(0, 1), (1, 1), (2, 1), (3, 1), (4, 4)] [.int .i64 0, .int .i64 0, .string ByteArray.empty, .int .i32 0, .slice none 0 0, .bool false, .slice none 0 0, .slice none 0 0] ps := ibuild_of (by kernel_rfl)
@[go_sem] theorem fo_127_4 : foff Tryz.prog 127 4 = some 4 := by kernel_rfl
@[go_sem] theorem ts_125 : tsize Tryz.prog 125 = some 4 := by kernel_rfl
@[go_sem] theorem ts_21 : tsize Tryz.prog 21 = some 1 := by kernel_rfl
@[go_sem] theorem ac_180 : acells Tryz.prog 180 = some ([.slice none 0 0, .bool false, .slice none 0 0], 3) := by kernel_rfl
@[go_sem] theorem ts_180 : tsize Tryz.prog 180 = some 3 := by kernel_rfl
@[go_sem] theorem tc_180 : tcell Tryz.prog 180 = some (some 3) := by kernel_rfl
@[go_sem] theorem bs_103_1 {sz : Nat} {ps : Array (Nat × Operand)} {ρ : Operand → Value} : iop0 Tryz.prog sz (.buildSlice 103 1 ps) ρ = bsl sz 1 3 [.slice none 0 0, .bool false, .slice none 0 0] (ps.toList.map fun p => (p.1, ρ p.2)) := iop0_buildSlice_of (by kernel_rfl)
@[go_sem] theorem ap_103_103 {low : Nat} {h : Heap} {s : Value} {a : Option Addr} {k c : Nat} : iappend Tryz.prog low h #[103, 103] s (.slice a k c) = iapp low h 3 56 s k (islice h 3 (.slice a k c)) := iappend_slice (by kernel_rfl) Tryz.underlying103
attribute [go_sem] Tryz.underlying103
@[go_sem] theorem el_103 : elts Tryz.prog 103 = some (.slice 3) := by kernel_rfl
@[go_sem] theorem bs_102_1 {sz : Nat} {ps : Array (Nat × Operand)} {ρ : Operand → Value} : iop0 Tryz.prog sz (.buildSlice 102 1 ps) ρ = bsl sz 1 1 [.int .i64 0] (ps.toList.map fun p => (p.1, ρ p.2)) := iop0_buildSlice_of (by kernel_rfl)
@[go_sem] theorem ac_105 : acells Tryz.prog 105 = some ([.slice none 0 0, .bool false, .slice none 0 0, .slice none 0 0, .bool false], 5) := by kernel_rfl
@[go_sem] theorem ts_105 : tsize Tryz.prog 105 = some 5 := by kernel_rfl
@[go_sem] theorem tc_105 : tcell Tryz.prog 105 = some (some 5) := by kernel_rfl
@[go_sem] theorem bs_22_1 {sz : Nat} {ps : Array (Nat × Operand)} {ρ : Operand → Value} : iop0 Tryz.prog sz (.buildSlice 22 1 ps) ρ = bsl sz 1 1 [.int .i32 0] (ps.toList.map fun p => (p.1, ρ p.2)) := iop0_buildSlice_of (by kernel_rfl)
@[go_sem] theorem ap_22_22 {low : Nat} {h : Heap} {s : Value} {a : Option Addr} {k c : Nat} : iappend Tryz.prog low h #[22, 22] s (.slice a k c) = iapp low h 1 4 s k (islice h 1 (.slice a k c)) := iappend_slice (by kernel_rfl) Tryz.underlying22
@[go_sem] theorem bs_93_1 {sz : Nat} {ps : Array (Nat × Operand)} {ρ : Operand → Value} : iop0 Tryz.prog sz (.buildSlice 93 1 ps) ρ = bsl sz 1 9 [.int .i64 0, .int .i64 0, .string ByteArray.empty, .int .i32 0, .slice none 0 0, .bool false, .slice none 0 0, .slice none 0 0, .bool false] (ps.toList.map fun p => (p.1, ρ p.2)) := iop0_buildSlice_of (by kernel_rfl)
@[go_sem] theorem ap_93_93 {low : Nat} {h : Heap} {s : Value} {a : Option Addr} {k c : Nat} : iappend Tryz.prog low h #[93, 93] s (.slice a k c) = iapp low h 9 128 s k (islice h 9 (.slice a k c)) := iappend_slice (by kernel_rfl) Tryz.underlying93
@[go_sem] theorem ts_93 : tsize Tryz.prog 93 = some 1 := by kernel_rfl
attribute [go_sem] Tryz.underlying165
@[go_sem] theorem ac_125 : acells Tryz.prog 125 = some ([.slice none 0 0, .bool false, .slice none 0 0, .slice none 0 0], 4) := by kernel_rfl
@[go_sem] theorem ac_197 : acells Tryz.prog 197 = some ([.bool false, .string ByteArray.empty, .string ByteArray.empty], 3) := by kernel_rfl
@[go_sem] theorem ts_197 : tsize Tryz.prog 197 = some 3 := by kernel_rfl
@[go_sem] theorem tc_125 : tcell Tryz.prog 125 = some (some 4) := by kernel_rfl
@[go_sem] theorem fo_125_3 : foff Tryz.prog 125 3 = some 3 := by kernel_rfl
@[go_sem] theorem tc_123 : tcell Tryz.prog 123 = some none := by kernel_rfl
@[go_sem] theorem tc_197 : tcell Tryz.prog 197 = some (some 3) := by kernel_rfl
@[go_sem] theorem bs_123_1 {sz : Nat} {ps : Array (Nat × Operand)} {ρ : Operand → Value} : iop0 Tryz.prog sz (.buildSlice 123 1 ps) ρ = bsl sz 1 3 [.bool false, .string ByteArray.empty, .string ByteArray.empty] (ps.toList.map fun p => (p.1, ρ p.2)) := iop0_buildSlice_of (by kernel_rfl)
@[go_sem] theorem ap_123_123 {low : Nat} {h : Heap} {s : Value} {a : Option Addr} {k c : Nat} : iappend Tryz.prog low h #[123, 123] s (.slice a k c) = iapp low h 3 40 s k (islice h 3 (.slice a k c)) := iappend_slice (by kernel_rfl) Tryz.underlying123
@[go_sem] theorem ts_123 : tsize Tryz.prog 123 = some 1 := by kernel_rfl
attribute [go_sem] Tryz.underlying123
@[go_sem] theorem fo_125_0 : foff Tryz.prog 125 0 = some 0 := by kernel_rfl
@[go_sem] theorem ts_102 : tsize Tryz.prog 102 = some 1 := by kernel_rfl
@[go_sem] theorem bd_125 {ps : List (Nat × Value)} : ibuild Tryz.prog 125 ps = blt [(0, 1), (1, 1), (2, 1), (3, 1)] [.slice none 0 0, .bool false, .slice none 0 0, .slice none 0 0] ps := ibuild_of (by kernel_rfl)
@[go_sem] theorem fo_125_2 : foff Tryz.prog 125 2 = some 2 := by kernel_rfl
@[go_sem] theorem ts_22 : tsize Tryz.prog 22 = some 1 := by kernel_rfl
@[go_sem] theorem bd_180 {ps : List (Nat × Value)} : ibuild Tryz.prog 180 ps = blt [(0, 2), (2, 1)] [.slice none 0 0, .bool false, .slice none 0 0] ps := ibuild_of (by kernel_rfl)
@[go_sem] theorem ac_176 : acells Tryz.prog 176 = some ([.slice none 0 0], 1) := by kernel_rfl
@[go_sem] theorem ts_176 : tsize Tryz.prog 176 = some 1 := by kernel_rfl
@[go_sem] theorem tc_176 : tcell Tryz.prog 176 = some (some 1) := by kernel_rfl
@[go_sem] theorem bd_105 {ps : List (Nat × Value)} : ibuild Tryz.prog 105 ps = blt [(0, 1), (1, 1), (2, 1), (3, 1), (4, 1)] [.slice none 0 0, .bool false, .slice none 0 0, .slice none 0 0, .bool false] ps := ibuild_of (by kernel_rfl)
@[go_sem] theorem bs_22_22 {sz : Nat} {ps : Array (Nat × Operand)} {ρ : Operand → Value} : iop0 Tryz.prog sz (.buildSlice 22 22 ps) ρ = bsl sz 22 1 [.int .i32 0, .int .i32 0, .int .i32 0, .int .i32 0, .int .i32 0, .int .i32 0, .int .i32 0, .int .i32 0, .int .i32 0, .int .i32 0, .int .i32 0, .int .i32 0, .int .i32 0, .int .i32 0, .int .i32 0, .int .i32 0, .int .i32 0, .int .i32 0, .int .i32 0, .int .i32 0, .int .i32 0, .int .i32 0] (ps.toList.map fun p => (p.1, ρ p.2)) := iop0_buildSlice_of (by kernel_rfl)
@[go_sem] theorem bs_22_17 {sz : Nat} {ps : Array (Nat × Operand)} {ρ : Operand → Value} : iop0 Tryz.prog sz (.buildSlice 22 17 ps) ρ = bsl sz 17 1 [.int .i32 0, .int .i32 0, .int .i32 0, .int .i32 0, .int .i32 0, .int .i32 0, .int .i32 0, .int .i32 0, .int .i32 0, .int .i32 0, .int .i32 0, .int .i32 0, .int .i32 0, .int .i32 0, .int .i32 0, .int .i32 0, .int .i32 0] (ps.toList.map fun p => (p.1, ρ p.2)) := iop0_buildSlice_of (by kernel_rfl)
@[go_sem] theorem bs_22_4 {sz : Nat} {ps : Array (Nat × Operand)} {ρ : Operand → Value} : iop0 Tryz.prog sz (.buildSlice 22 4 ps) ρ = bsl sz 4 1 [.int .i32 0, .int .i32 0, .int .i32 0, .int .i32 0] (ps.toList.map fun p => (p.1, ρ p.2)) := iop0_buildSlice_of (by kernel_rfl)
@[go_sem] theorem bs_22_15 {sz : Nat} {ps : Array (Nat × Operand)} {ρ : Operand → Value} : iop0 Tryz.prog sz (.buildSlice 22 15 ps) ρ = bsl sz 15 1 [.int .i32 0, .int .i32 0, .int .i32 0, .int .i32 0, .int .i32 0, .int .i32 0, .int .i32 0, .int .i32 0, .int .i32 0, .int .i32 0, .int .i32 0, .int .i32 0, .int .i32 0, .int .i32 0, .int .i32 0] (ps.toList.map fun p => (p.1, ρ p.2)) := iop0_buildSlice_of (by kernel_rfl)
@[go_sem] theorem bs_22_24 {sz : Nat} {ps : Array (Nat × Operand)} {ρ : Operand → Value} : iop0 Tryz.prog sz (.buildSlice 22 24 ps) ρ = bsl sz 24 1 [.int .i32 0, .int .i32 0, .int .i32 0, .int .i32 0, .int .i32 0, .int .i32 0, .int .i32 0, .int .i32 0, .int .i32 0, .int .i32 0, .int .i32 0, .int .i32 0, .int .i32 0, .int .i32 0, .int .i32 0, .int .i32 0, .int .i32 0, .int .i32 0, .int .i32 0, .int .i32 0, .int .i32 0, .int .i32 0, .int .i32 0, .int .i32 0] (ps.toList.map fun p => (p.1, ρ p.2)) := iop0_buildSlice_of (by kernel_rfl)
attribute [go_sem] Tryz.underlying21
@[go_sem] theorem cv_9_63 {h : Heap} {s : List UInt8} : iconvert Tryz.prog h 9 63 (.string (text s)) = icvt (some .u8) s h := iconvert_text Tryz.underlying9 (by kernel_rfl)
@[go_sem] theorem bd_176 {ps : List (Nat × Value)} : ibuild Tryz.prog 176 ps = blt [(0, 1)] [.slice none 0 0] ps := ibuild_of (by kernel_rfl)
attribute [go_sem] Tryz.underlying167
@[go_sem] theorem ts_178 : tsize Tryz.prog 178 = some 2 := by kernel_rfl
@[go_sem] theorem tc_178 : tcell Tryz.prog 178 = some (some 2) := by kernel_rfl
@[go_sem] theorem ac_178 : acells Tryz.prog 178 = some ([.slice none 0 0, .bool false], 2) := by kernel_rfl
@[go_sem] theorem bd_178 {ps : List (Nat × Value)} : ibuild Tryz.prog 178 ps = blt [(0, 1), (1, 1)] [.slice none 0 0, .bool false] ps := ibuild_of (by kernel_rfl)
attribute [go_sem] Tryz.underlying102
@[go_sem] theorem el_102 : elts Tryz.prog 102 = some (.slice 1) := by kernel_rfl
@[go_sem] theorem bs_102_0 {sz : Nat} {ps : Array (Nat × Operand)} {ρ : Operand → Value} : iop0 Tryz.prog sz (.buildSlice 102 0 ps) ρ = bsl sz 0 1 [] (ps.toList.map fun p => (p.1, ρ p.2)) := iop0_buildSlice_of (by kernel_rfl)
@[go_sem] theorem ap_102_102 {low : Nat} {h : Heap} {s : Value} {a : Option Addr} {k c : Nat} : iappend Tryz.prog low h #[102, 102] s (.slice a k c) = iapp low h 1 8 s k (islice h 1 (.slice a k c)) := iappend_slice (by kernel_rfl) Tryz.underlying102
@[go_sem] theorem bs_103_0 {sz : Nat} {ps : Array (Nat × Operand)} {ρ : Operand → Value} : iop0 Tryz.prog sz (.buildSlice 103 0 ps) ρ = bsl sz 0 3 [] (ps.toList.map fun p => (p.1, ρ p.2)) := iop0_buildSlice_of (by kernel_rfl)
@[go_sem] theorem bs_22_0 {sz : Nat} {ps : Array (Nat × Operand)} {ρ : Operand → Value} : iop0 Tryz.prog sz (.buildSlice 22 0 ps) ρ = bsl sz 0 1 [] (ps.toList.map fun p => (p.1, ρ p.2)) := iop0_buildSlice_of (by kernel_rfl)
@[go_sem] theorem bd_197 {ps : List (Nat × Value)} : ibuild Tryz.prog 197 ps = blt [(0, 1), (1, 1), (2, 1)] [.bool false, .string ByteArray.empty, .string ByteArray.empty] ps := ibuild_of (by kernel_rfl)
@[go_sem] theorem ts_220 : tsize Tryz.prog 220 = some 2 := by kernel_rfl
@[go_sem] theorem fo_220_0 : foff Tryz.prog 220 0 = some 0 := by kernel_rfl
@[go_sem] theorem tc_4 : tcell Tryz.prog 4 = some none := by kernel_rfl
@[go_sem] theorem fo_220_1 : foff Tryz.prog 220 1 = some 1 := by kernel_rfl
@[go_sem] theorem ac_220 : acells Tryz.prog 220 = some ([.bool false, .string ByteArray.empty], 2) := by kernel_rfl
@[go_sem] theorem bd_220 {ps : List (Nat × Value)} : ibuild Tryz.prog 220 ps = blt [(0, 1), (1, 1)] [.bool false, .string ByteArray.empty] ps := ibuild_of (by kernel_rfl)
@[go_sem] theorem tc_220 : tcell Tryz.prog 220 = some (some 2) := by kernel_rfl
@[go_sem] theorem fo_176_0 : foff Tryz.prog 176 0 = some 0 := by kernel_rfl
@[go_sem] theorem tc_174 : tcell Tryz.prog 174 = some none := by kernel_rfl
attribute [go_sem] Tryz.underlying174
@[go_sem] theorem mk_174 {sz : Nat} {k k' : IntKind} {l c : Int} : imake Tryz.prog sz 174 (.int k l) (.int k' c) = imk sz 1 4 [.int .u32 0] l c := imake_of (by kernel_rfl)
@[go_sem] theorem el_174 : elts Tryz.prog 174 = some (.slice 1) := by kernel_rfl
@[go_sem] theorem tc_165 : tcell Tryz.prog 165 = some none := by kernel_rfl
@[go_sem] theorem ts_165 : tsize Tryz.prog 165 = some 1 := by kernel_rfl
@[go_sem] theorem bs_174_2 {sz : Nat} {ps : Array (Nat × Operand)} {ρ : Operand → Value} : iop0 Tryz.prog sz (.buildSlice 174 2 ps) ρ = bsl sz 2 1 [.int .u32 0, .int .u32 0] (ps.toList.map fun p => (p.1, ρ p.2)) := iop0_buildSlice_of (by kernel_rfl)
@[go_sem] theorem fo_180_0 : foff Tryz.prog 180 0 = some 0 := by kernel_rfl
@[go_sem] theorem bs_246_1 {sz : Nat} {ps : Array (Nat × Operand)} {ρ : Operand → Value} : iop0 Tryz.prog sz (.buildSlice 246 1 ps) ρ = bsl sz 1 2 [.slice none 0 0, .bool false] (ps.toList.map fun p => (p.1, ρ p.2)) := iop0_buildSlice_of (by kernel_rfl)
@[go_sem] theorem fo_178_0 : foff Tryz.prog 178 0 = some 0 := by kernel_rfl
attribute [go_sem] Tryz.underlying246
@[go_sem] theorem el_246 : elts Tryz.prog 246 = some (.slice 2) := by kernel_rfl
@[go_sem] theorem fo_178_1 : foff Tryz.prog 178 1 = some 1 := by kernel_rfl
@[go_sem] theorem fo_197_0 : foff Tryz.prog 197 0 = some 0 := by kernel_rfl
@[go_sem] theorem fo_197_1 : foff Tryz.prog 197 1 = some 1 := by kernel_rfl
@[go_sem] theorem fo_197_2 : foff Tryz.prog 197 2 = some 2 := by kernel_rfl
@[go_sem] theorem fo_180_1 : foff Tryz.prog 180 1 = some 2 := by kernel_rfl
@[go_sem] theorem mk_63 {sz : Nat} {k k' : IntKind} {l c : Int} : imake Tryz.prog sz 63 (.int k l) (.int k' c) = imk sz 1 1 [.int .u8 0] l c := imake_of (by kernel_rfl)
@[go_sem] theorem mk_102 {sz : Nat} {k k' : IntKind} {l c : Int} : imake Tryz.prog sz 102 (.int k l) (.int k' c) = imk sz 1 8 [.int .i64 0] l c := imake_of (by kernel_rfl)
@[go_sem] theorem fp_176_0 : fpart Tryz.prog 176 0 = some (false, 0, 1) := by kernel_rfl
attribute [go_sem] Tryz.underlying143
end Go.Proofs.YtachkofbmodnnaaGreat.Hd
