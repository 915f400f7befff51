/- Proved here: facts about the functions and types of this seat; no condition. Written by a program (hdr.py). -/
import Derived.Test.YtjlaenglmdpboaaIm4
import Derived.Test.YtjlaenglmdpboaaProg
import Derived.Test.YtjlaenglmdpboaaQHdlaw23
import Derived.Test.YtjlaenglmdpboaaX1
import Derived.KernelRfl
namespace Go.Proofs.Ytjlaenglmdpboaa.Hd
open Go Go.Im Go.Proofs Go.RowKit
set_option maxRecDepth 100000
abbrev f_law23_HeadBack : Nat := 6
theorem F_law23_HeadBack : Try.prog.funcs[6]? = some Try.f6 := Try.func6
abbrev f_token_Lex : Nat := 8
theorem F_token_Lex : Try.prog.funcs[8]? = some Try.f8 := Try.func8
abbrev f_token_Token_Is : Nat := 12
theorem F_token_Token_Is : Try.prog.funcs[12]? = some Try.f12 := Try.func12
abbrev f_head_Same : Nat := 15
theorem F_head_Same : Try.prog.funcs[15]? = some Try.f15 := Try.func15
abbrev f_head_Parse : Nat := 18
theorem F_head_Parse : Try.prog.funcs[18]? = some Try.f18 := Try.func18
abbrev f_token_lexer_next : Nat := 21
theorem F_token_lexer_next : Try.prog.funcs[21]? = some Try.f21 := Try.func21
abbrev f_slices_Equal_string_string : Nat := 25
theorem F_slices_Equal_string_string : Try.prog.funcs[25]? = some Try.f25 := Try.func25
abbrev f_head_names : Nat := 26
theorem F_head_names : Try.prog.funcs[26]? = some Try.f26 := Try.func26
abbrev f_head_Head_Names : Nat := 27
theorem F_head_Head_Names : Try.prog.funcs[27]? = some Try.f27 := Try.func27
abbrev f_slices_Clone_string_string : Nat := 30
theorem F_slices_Clone_string_string : Try.prog.funcs[30]? = some Try.f30 := Try.func30
abbrev f_glyph_Kind : Nat := 33
theorem F_glyph_Kind : Try.prog.funcs[33]? = some Try.f33 := Try.func33
abbrev f_deci_Begins : Nat := 34
theorem F_deci_Begins : Try.prog.funcs[34]? = some Try.f34 := Try.func34
abbrev f_token_lexer_numbers : Nat := 35
theorem F_token_lexer_numbers : Try.prog.funcs[35]? = some Try.f35 := Try.func35
abbrev f_token_lexer_word : Nat := 36
theorem F_token_lexer_word : Try.prog.funcs[36]? = some Try.f36 := Try.func36
abbrev f_token_lexer_text : Nat := 37
theorem F_token_lexer_text : Try.prog.funcs[37]? = some Try.f37 := Try.func37
abbrev f_token_lexer_add : Nat := 38
theorem F_token_lexer_add : Try.prog.funcs[38]? = some Try.f38 := Try.func38
abbrev f_glyph_in : Nat := 48
theorem F_glyph_in : Try.prog.funcs[48]? = some Try.f48 := Try.func48
abbrev f_deci_digit : Nat := 49
theorem F_deci_digit : Try.prog.funcs[49]? = some Try.f49 := Try.func49
abbrev f_deci_Read : Nat := 50
theorem F_deci_Read : Try.prog.funcs[50]? = some Try.f50 := Try.func50
abbrev f_array_Num : Nat := 51
theorem F_array_Num : Try.prog.funcs[51]? = some Try.f51 := Try.func51
abbrev f_array_Nums : Nat := 52
theorem F_array_Nums : Try.prog.funcs[52]? = some Try.f52 := Try.func52
abbrev f_glyph_Word : Nat := 53
theorem F_glyph_Word : Try.prog.funcs[53]? = some Try.f53 := Try.func53
abbrev f_glyph_Name : Nat := 54
theorem F_glyph_Name : Try.prog.funcs[54]? = some Try.f54 := Try.func54
abbrev f_array_Char : Nat := 55
theorem F_array_Char : Try.prog.funcs[55]? = some Try.f55 := Try.func55
abbrev f_array_Text : Nat := 56
theorem F_array_Text : Try.prog.funcs[56]? = some Try.f56 := Try.func56
abbrev f_bits_Len32 : Nat := 70
theorem F_bits_Len32 : Try.prog.funcs[70]? = some Try.f70 := Try.func70
abbrev f_deci_digits : Nat := 73
theorem F_deci_digits : Try.prog.funcs[73]? = some Try.f73 := Try.func73
abbrev f_deci_exponent : Nat := 74
theorem F_deci_exponent : Try.prog.funcs[74]? = some Try.f74 := Try.func74
abbrev f_nat_Parse : Nat := 75
theorem F_nat_Parse : Try.prog.funcs[75]? = some Try.f75 := Try.func75
abbrev f_deci_scaled : Nat := 76
theorem F_deci_scaled : Try.prog.funcs[76]? = some Try.f76 := Try.func76
abbrev f_ratio_Whole : Nat := 77
theorem F_ratio_Whole : Try.prog.funcs[77]? = some Try.f77 := Try.func77
abbrev f_whole_Of : Nat := 78
theorem F_whole_Of : Try.prog.funcs[78]? = some Try.f78 := Try.func78
abbrev f_array_Count : Nat := 79
theorem F_array_Count : Try.prog.funcs[79]? = some Try.f79 := Try.func79
abbrev f_slices_Clone_int_int : Nat := 80
theorem F_slices_Clone_int_int : Try.prog.funcs[80]? = some Try.f80 := Try.func80
abbrev f_slices_Clone_ratio_Rat_ratio_Rat : Nat := 81
theorem F_slices_Clone_ratio_Rat_ratio_Rat : Try.prog.funcs[81]? = some Try.f81 := Try.func81
abbrev f_slices_Clone_rune_rune : Nat := 82
theorem F_slices_Clone_rune_rune : Try.prog.funcs[82]? = some Try.f82 := Try.func82
abbrev f_nat_Nat_Mul : Nat := 94
theorem F_nat_Nat_Mul : Try.prog.funcs[94]? = some Try.f94 := Try.func94
abbrev f_nat_Of : Nat := 95
theorem F_nat_Of : Try.prog.funcs[95]? = some Try.f95 := Try.func95
abbrev f_nat_Nat_Add : Nat := 96
theorem F_nat_Nat_Add : Try.prog.funcs[96]? = some Try.f96 := Try.func96
abbrev f_deci_ten : Nat := 97
theorem F_deci_ten : Try.prog.funcs[97]? = some Try.f97 := Try.func97
abbrev f_ratio_Rat_Times : Nat := 98
theorem F_ratio_Rat_Times : Try.prog.funcs[98]? = some Try.f98 := Try.func98
abbrev f_ratio_Rat_By : Nat := 99
theorem F_ratio_Rat_By : Try.prog.funcs[99]? = some Try.f99 := Try.func99
abbrev f_nat_Nat_Zero : Nat := 100
theorem F_nat_Nat_Zero : Try.prog.funcs[100]? = some Try.f100 := Try.func100
abbrev f_nat_trim : Nat := 106
theorem F_nat_trim : Try.prog.funcs[106]? = some Try.f106 := Try.func106
abbrev f_bits_Add32 : Nat := 107
theorem F_bits_Add32 : Try.prog.funcs[107]? = some Try.f107 := Try.func107
abbrev f_nat_Nat_Pow : Nat := 108
theorem F_nat_Nat_Pow : Try.prog.funcs[108]? = some Try.f108 := Try.func108
abbrev f_ratio_New : Nat := 109
theorem F_ratio_New : Try.prog.funcs[109]? = some Try.f109 := Try.func109
abbrev f_whole_Int_Times : Nat := 110
theorem F_whole_Int_Times : Try.prog.funcs[110]? = some Try.f110 := Try.func110
abbrev f_ratio_Rat_under : Nat := 111
theorem F_ratio_Rat_under : Try.prog.funcs[111]? = some Try.f111 := Try.func111
abbrev f_nat_Nat_One : Nat := 116
theorem F_nat_Nat_One : Try.prog.funcs[116]? = some Try.f116 := Try.func116
abbrev f_nat_Nat_Limbs : Nat := 117
theorem F_nat_Nat_Limbs : Try.prog.funcs[117]? = some Try.f117 := Try.func117
abbrev f_nat_Nat_Gcd : Nat := 118
theorem F_nat_Nat_Gcd : Try.prog.funcs[118]? = some Try.f118 := Try.func118
abbrev f_whole_Int_Size : Nat := 119
theorem F_whole_Int_Size : Try.prog.funcs[119]? = some Try.f119 := Try.func119
abbrev f_nat_Nat_DivMod : Nat := 120
theorem F_nat_Nat_DivMod : Try.prog.funcs[120]? = some Try.f120 := Try.func120
abbrev f_whole_Int_Neg : Nat := 121
theorem F_whole_Int_Neg : Try.prog.funcs[121]? = some Try.f121 := Try.func121
abbrev f_ratio_Rat_down : Nat := 122
theorem F_ratio_Rat_down : Try.prog.funcs[122]? = some Try.f122 := Try.func122
abbrev f_nat_Nat_Uint : Nat := 126
theorem F_nat_Nat_Uint : Try.prog.funcs[126]? = some Try.f126 := Try.func126
abbrev f_nat_Nat_Cmp : Nat := 127
theorem F_nat_Nat_Cmp : Try.prog.funcs[127]? = some Try.f127 := Try.func127
abbrev f_nat_Nat_small : Nat := 128
theorem F_nat_Nat_small : Try.prog.funcs[128]? = some Try.f128 := Try.func128
abbrev f_nat_long : Nat := 129
theorem F_nat_long : Try.prog.funcs[129]? = some Try.f129 := Try.func129
abbrev f_bits_LeadingZeros32 : Nat := 134
theorem F_bits_LeadingZeros32 : Try.prog.funcs[134]? = some Try.f134 := Try.func134
abbrev f_nat_Nat_Shl : Nat := 135
theorem F_nat_Nat_Shl : Try.prog.funcs[135]? = some Try.f135 := Try.func135
abbrev f_nat_under : Nat := 136
theorem F_nat_under : Try.prog.funcs[136]? = some Try.f136 := Try.func136
abbrev f_nat_back : Nat := 137
theorem F_nat_back : Try.prog.funcs[137]? = some Try.f137 := Try.func137
abbrev f_nat_Nat_Shr : Nat := 138
theorem F_nat_Nat_Shr : Try.prog.funcs[138]? = some Try.f138 := Try.func138
abbrev f_bits_Sub32 : Nat := 139
theorem F_bits_Sub32 : Try.prog.funcs[139]? = some Try.f139 := Try.func139
abbrev f_law23_awake : Nat := 14
attribute [go_sem] Try.f6 Try.f8 Try.f12 Try.f15 Try.f18 Try.f21 Try.f25 Try.f26 Try.f27 Try.f30 Try.f33 Try.f34 Try.f35 Try.f36 Try.f37 Try.f38 Try.f48 Try.f49 Try.f50 Try.f51 Try.f52 Try.f53 Try.f54 Try.f55 Try.f56 Try.f70 Try.f73 Try.f74 Try.f75 Try.f76 Try.f77 Try.f78 Try.f79 Try.f80 Try.f81 Try.f82 Try.f94 Try.f95 Try.f96 Try.f97 Try.f98 Try.f99 Try.f100 Try.f106 Try.f107 Try.f108 Try.f109 Try.f110 Try.f111 Try.f116 Try.f117 Try.f118 Try.f119 Try.f120 Try.f121 Try.f122 Try.f126 Try.f127 Try.f128 Try.f129 Try.f134 Try.f135 Try.f136 Try.f137 Try.f138 Try.f139
abbrev f_slices_Sort_string_string : Nat := 28
abbrev f_slices_Compact_string_string : Nat := 29
abbrev f_head_Head_Text : Nat := 19
noncomputable def K : Cfg := cfgx Try.prog [6, 8, 12, 15, 18, 21, 25, 26, 27, 30, 33, 34, 35, 36, 37, 38, 48, 49, 50, 51, 52, 53, 54, 55, 56, 70, 73, 74, 75, 76, 77, 78, 79, 80, 81, 82, 94, 95, 96, 97, 98, 99, 100, 106, 107, 108, 109, 110, 111, 116, 117, 118, 119, 120, 121, 122, 126, 127, 128, 129, 134, 135, 136, 137, 138, 139] [(18, 22), (75, 14), (77, 1), (78, 1), (98, 4), (99, 1), (109, 3), (109, 6), (110, 4), (120, 7)] [(18, (6, [(5, 7)])), (18, (13, [(5, 7)])), (18, (15, [(5, 10), (8, 10), (8, 12)])), (118, (9, [(1, 2)])), (120, (4, [(1, 2)])), (120, (9, [(1, 2)])), (128, (7, [(9, 12)]))] [law23.awake] [X1.sortX, X1.compX, X1.textX]
attribute [go_sem] Nat.add_eq_left Nat.left_eq_add
@[go_sem] theorem KP : K.P = Try.prog := rfl
@[go_sem] theorem KD {f r : Nat} : K.dy f r = dyAt [(18, (6, [(5, 7)])), (18, (13, [(5, 7)])), (18, (15, [(5, 10), (8, 10), (8, 12)])), (118, (9, [(1, 2)])), (120, (4, [(1, 2)])), (120, (9, [(1, 2)])), (128, (7, [(9, 12)]))] f r := rfl
theorem Kok : CfgOK K := cfgx_ok (by decide +kernel) (by decide +kernel)
theorem law23_awake_runs (h : Heap) : Runs K 14 #[] h fun v _ => v = .bool true := ⟨1, .bool true, h, rfl, Ext.refl h, rfl⟩
attribute [go_sem] Try.underlying22
@[go_sem] theorem ac_51 : acells Try.prog 51 = some ([.string ByteArray.empty, .string ByteArray.empty, .string ByteArray.empty, .string ByteArray.empty, .slice none 0 0], 5) := by kernel_rfl
@[go_sem] theorem ts_51 : tsize Try.prog 51 = some 5 := by kernel_rfl
@[go_sem] theorem fo_51_0 : foff Try.prog 51 0 = some 0 := by kernel_rfl
@[go_sem] theorem tc_9 : tcell Try.prog 9 = some none := by kernel_rfl
@[go_sem] theorem tc_51 : tcell Try.prog 51 = some (some 5) := by kernel_rfl
attribute [go_sem] Try.underlying9
@[go_sem] theorem cv_9_22 {h : Heap} {s : List UInt8} : iconvert Try.prog h 9 22 (.string (text s)) = icvt (some .i32) s h := iconvert_text Try.underlying9 (by kernel_rfl)
@[go_sem] theorem bd_61 {ps : List (Nat × Value)} : ibuild Try.prog 61 ps = blt [(0, 1), (1, 1), (2, 1)] [.slice none 0 0, .int .i64 0, .slice none 0 0] ps := ibuild_of (by kernel_rfl)
@[go_sem] theorem ts_61 : tsize Try.prog 61 = some 3 := by kernel_rfl
@[go_sem] theorem fo_61_1 : foff Try.prog 61 1 = some 1 := by kernel_rfl
@[go_sem] theorem tc_3 : tcell Try.prog 3 = some none := by kernel_rfl
@[go_sem] theorem el_22 : elts Try.prog 22 = some (.slice 1) := by kernel_rfl
@[go_sem] theorem tc_21 : tcell Try.prog 21 = some none := by kernel_rfl
@[go_sem] theorem fo_61_2 : foff Try.prog 61 2 = some 2 := by kernel_rfl
@[go_sem] theorem tc_24 : tcell Try.prog 24 = some none := by kernel_rfl
@[go_sem] theorem ts_32 : tsize Try.prog 32 = some 9 := by kernel_rfl
@[go_sem] theorem fo_32_0 : foff Try.prog 32 0 = some 0 := by kernel_rfl
@[go_sem] theorem fo_32_3 : foff Try.prog 32 3 = some 3 := by kernel_rfl
@[go_sem] theorem fo_51_1 : foff Try.prog 51 1 = some 1 := by kernel_rfl
@[go_sem] theorem fo_51_2 : foff Try.prog 51 2 = some 2 := by kernel_rfl
@[go_sem] theorem fo_51_3 : foff Try.prog 51 3 = some 3 := by kernel_rfl
@[go_sem] theorem fo_51_4 : foff Try.prog 51 4 = some 4 := by kernel_rfl
@[go_sem] theorem tc_47 : tcell Try.prog 47 = some none := by kernel_rfl
@[go_sem] theorem bd_51 {ps : List (Nat × Value)} : ibuild Try.prog 51 ps = blt [(0, 1), (1, 1), (2, 1), (3, 1), (4, 1)] [.string ByteArray.empty, .string ByteArray.empty, .string ByteArray.empty, .string ByteArray.empty, .slice none 0 0] ps := ibuild_of (by kernel_rfl)
attribute [go_sem] Try.underlying24
@[go_sem] theorem el_24 : elts Try.prog 24 = some (.slice 9) := by kernel_rfl
@[go_sem] theorem tc_32 : tcell Try.prog 32 = some (some 9) := by kernel_rfl
@[go_sem] theorem fo_32_2 : foff Try.prog 32 2 = some 2 := by kernel_rfl
@[go_sem] theorem ts_9 : tsize Try.prog 9 = some 1 := by kernel_rfl
attribute [go_sem] Try.underlying47
@[go_sem] theorem el_47 : elts Try.prog 47 = some (.slice 1) := by kernel_rfl
@[go_sem] theorem bs_47_1 {sz : Nat} {ps : Array (Nat × Operand)} {ρ : Operand → Value} : iop0 Try.prog sz (.buildSlice 47 1 ps) ρ = bsl sz 1 1 [.string ByteArray.empty] (ps.toList.map fun p => (p.1, ρ p.2)) := iop0_buildSlice_of (by kernel_rfl)
@[go_sem] theorem ap_47_47 {low : Nat} {h : Heap} {s : Value} {a : Option Addr} {k c : Nat} : iappend Try.prog low h #[47, 47] s (.slice a k c) = iapp low h 1 16 s k (islice h 1 (.slice a k c)) := iappend_slice (by kernel_rfl) Try.underlying47
@[go_sem] theorem ts_47 : tsize Try.prog 47 = some 1 := by kernel_rfl
@[go_sem] theorem fo_61_0 : foff Try.prog 61 0 = some 0 := by kernel_rfl
@[go_sem] theorem tc_22 : tcell Try.prog 22 = some none := by kernel_rfl
@[go_sem] theorem ts_3 : tsize Try.prog 3 = some 1 := by kernel_rfl
@[go_sem] theorem bd_32 {ps : List (Nat × Value)} : ibuild Try.prog 32 ps = blt [(0, 1), (1, 1), (2, 1), (3, 1), (4, 5)] [.int .i64 0, .int .i64 0, .string ByteArray.empty, .int .i32 0, .slice none 0 0, .bool false, .slice none 0 0, .slice none 0 0, .bool false] ps := ibuild_of (by kernel_rfl)
@[go_sem] theorem ac_32 : acells Try.prog 32 = some ([.int .i64 0, .int .i64 0, .string ByteArray.empty, .int .i32 0, .slice none 0 0, .bool false, .slice none 0 0, .slice none 0 0, .bool false], 9) := by kernel_rfl
@[go_sem] theorem bs_47_3 {sz : Nat} {ps : Array (Nat × Operand)} {ρ : Operand → Value} : iop0 Try.prog sz (.buildSlice 47 3 ps) ρ = bsl sz 3 1 [.string ByteArray.empty, .string ByteArray.empty, .string ByteArray.empty] (ps.toList.map fun p => (p.1, ρ p.2)) := iop0_buildSlice_of (by kernel_rfl)
@[go_sem] theorem bs_47_0 {sz : Nat} {ps : Array (Nat × Operand)} {ρ : Operand → Value} : iop0 Try.prog sz (.buildSlice 47 0 ps) ρ = bsl sz 0 1 [] (ps.toList.map fun p => (p.1, ρ p.2)) := iop0_buildSlice_of (by kernel_rfl)
@[go_sem] theorem ac_98 : acells Try.prog 98 = some ([.slice none 0 0, .bool false, .slice none 0 0], 3) := by kernel_rfl
@[go_sem] theorem ts_98 : tsize Try.prog 98 = some 3 := by kernel_rfl
@[go_sem] theorem tc_98 : tcell Try.prog 98 = some (some 3) := by kernel_rfl
@[go_sem] theorem bs_28_1 {sz : Nat} {ps : Array (Nat × Operand)} {ρ : Operand → Value} : iop0 Try.prog sz (.buildSlice 28 1 ps) ρ = bsl sz 1 3 [.slice none 0 0, .bool false, .slice none 0 0] (ps.toList.map fun p => (p.1, ρ p.2)) := iop0_buildSlice_of (by kernel_rfl)
@[go_sem] theorem ap_28_28 {low : Nat} {h : Heap} {s : Value} {a : Option Addr} {k c : Nat} : iappend Try.prog low h #[28, 28] s (.slice a k c) = iapp low h 3 56 s k (islice h 3 (.slice a k c)) := iappend_slice (by kernel_rfl) Try.underlying28
attribute [go_sem] Try.underlying28
@[go_sem] theorem el_28 : elts Try.prog 28 = some (.slice 3) := by kernel_rfl
@[go_sem] theorem bs_27_1 {sz : Nat} {ps : Array (Nat × Operand)} {ρ : Operand → Value} : iop0 Try.prog sz (.buildSlice 27 1 ps) ρ = bsl sz 1 1 [.int .i64 0] (ps.toList.map fun p => (p.1, ρ p.2)) := iop0_buildSlice_of (by kernel_rfl)
@[go_sem] theorem ac_30 : acells Try.prog 30 = some ([.slice none 0 0, .bool false, .slice none 0 0, .slice none 0 0, .bool false], 5) := by kernel_rfl
@[go_sem] theorem ts_30 : tsize Try.prog 30 = some 5 := by kernel_rfl
@[go_sem] theorem tc_30 : tcell Try.prog 30 = some (some 5) := by kernel_rfl
@[go_sem] theorem cv_22_9 {h : Heap} {a : Option Addr} {n c : Nat} : iconvert Try.prog h 22 9 (.slice a n c) = icvs (some .i32) (islice h 1 (.slice a n c)) h := iconvert_slice (by kernel_rfl) Try.underlying9
@[go_sem] theorem bs_22_1 {sz : Nat} {ps : Array (Nat × Operand)} {ρ : Operand → Value} : iop0 Try.prog sz (.buildSlice 22 1 ps) ρ = bsl sz 1 1 [.int .i32 0] (ps.toList.map fun p => (p.1, ρ p.2)) := iop0_buildSlice_of (by kernel_rfl)
@[go_sem] theorem ap_22_22 {low : Nat} {h : Heap} {s : Value} {a : Option Addr} {k c : Nat} : iappend Try.prog low h #[22, 22] s (.slice a k c) = iapp low h 1 4 s k (islice h 1 (.slice a k c)) := iappend_slice (by kernel_rfl) Try.underlying22
@[go_sem] theorem fo_32_1 : foff Try.prog 32 1 = some 1 := by kernel_rfl
@[go_sem] theorem bs_24_1 {sz : Nat} {ps : Array (Nat × Operand)} {ρ : Operand → Value} : iop0 Try.prog sz (.buildSlice 24 1 ps) ρ = bsl sz 1 9 [.int .i64 0, .int .i64 0, .string ByteArray.empty, .int .i32 0, .slice none 0 0, .bool false, .slice none 0 0, .slice none 0 0, .bool false] (ps.toList.map fun p => (p.1, ρ p.2)) := iop0_buildSlice_of (by kernel_rfl)
@[go_sem] theorem ap_24_24 {low : Nat} {h : Heap} {s : Value} {a : Option Addr} {k c : Nat} : iappend Try.prog low h #[24, 24] s (.slice a k c) = iapp low h 9 128 s k (islice h 9 (.slice a k c)) := iappend_slice (by kernel_rfl) Try.underlying24
@[go_sem] theorem ts_24 : tsize Try.prog 24 = some 1 := by kernel_rfl
@[go_sem] theorem bd_98 {ps : List (Nat × Value)} : ibuild Try.prog 98 ps = blt [(0, 2), (2, 1)] [.slice none 0 0, .bool false, .slice none 0 0] ps := ibuild_of (by kernel_rfl)
@[go_sem] theorem ac_94 : acells Try.prog 94 = some ([.slice none 0 0], 1) := by kernel_rfl
@[go_sem] theorem ts_94 : tsize Try.prog 94 = some 1 := by kernel_rfl
@[go_sem] theorem tc_94 : tcell Try.prog 94 = some (some 1) := by kernel_rfl
@[go_sem] theorem bd_30 {ps : List (Nat × Value)} : ibuild Try.prog 30 ps = blt [(0, 1), (1, 1), (2, 1), (3, 1), (4, 1)] [.slice none 0 0, .bool false, .slice none 0 0, .slice none 0 0, .bool false] ps := ibuild_of (by kernel_rfl)
attribute [go_sem] Try.underlying121
attribute [go_sem] Try.underlying5
@[go_sem] theorem el_9 : elts Try.prog 9 = some .text := by kernel_rfl
attribute [go_sem] Try.underlying3
attribute [go_sem] Try.underlying73
@[go_sem] theorem cv_9_73 {h : Heap} {s : List UInt8} : iconvert Try.prog h 9 73 (.string (text s)) = icvt (some .u8) s h := iconvert_text Try.underlying9 (by kernel_rfl)
@[go_sem] theorem el_73 : elts Try.prog 73 = some (.slice 1) := by kernel_rfl
@[go_sem] theorem tc_5 : tcell Try.prog 5 = some none := by kernel_rfl
@[go_sem] theorem bd_94 {ps : List (Nat × Value)} : ibuild Try.prog 94 ps = blt [(0, 1)] [.slice none 0 0] ps := ibuild_of (by kernel_rfl)
attribute [go_sem] Try.underlying123
@[go_sem] theorem ts_96 : tsize Try.prog 96 = some 2 := by kernel_rfl
@[go_sem] theorem tc_96 : tcell Try.prog 96 = some (some 2) := by kernel_rfl
@[go_sem] theorem ac_96 : acells Try.prog 96 = some ([.slice none 0 0, .bool false], 2) := by kernel_rfl
@[go_sem] theorem bd_96 {ps : List (Nat × Value)} : ibuild Try.prog 96 ps = blt [(0, 1), (1, 1)] [.slice none 0 0, .bool false] ps := ibuild_of (by kernel_rfl)
attribute [go_sem] Try.underlying27
@[go_sem] theorem el_27 : elts Try.prog 27 = some (.slice 1) := by kernel_rfl
@[go_sem] theorem bs_27_0 {sz : Nat} {ps : Array (Nat × Operand)} {ρ : Operand → Value} : iop0 Try.prog sz (.buildSlice 27 0 ps) ρ = bsl sz 0 1 [] (ps.toList.map fun p => (p.1, ρ p.2)) := iop0_buildSlice_of (by kernel_rfl)
@[go_sem] theorem ap_27_27 {low : Nat} {h : Heap} {s : Value} {a : Option Addr} {k c : Nat} : iappend Try.prog low h #[27, 27] s (.slice a k c) = iapp low h 1 8 s k (islice h 1 (.slice a k c)) := iappend_slice (by kernel_rfl) Try.underlying27
@[go_sem] theorem bs_28_0 {sz : Nat} {ps : Array (Nat × Operand)} {ρ : Operand → Value} : iop0 Try.prog sz (.buildSlice 28 0 ps) ρ = bsl sz 0 3 [] (ps.toList.map fun p => (p.1, ρ p.2)) := iop0_buildSlice_of (by kernel_rfl)
@[go_sem] theorem bs_22_0 {sz : Nat} {ps : Array (Nat × Operand)} {ρ : Operand → Value} : iop0 Try.prog sz (.buildSlice 22 0 ps) ρ = bsl sz 0 1 [] (ps.toList.map fun p => (p.1, ρ p.2)) := iop0_buildSlice_of (by kernel_rfl)
@[go_sem] theorem fo_94_0 : foff Try.prog 94 0 = some 0 := by kernel_rfl
@[go_sem] theorem tc_92 : tcell Try.prog 92 = some none := by kernel_rfl
attribute [go_sem] Try.underlying92
@[go_sem] theorem mk_92 {sz : Nat} {k k' : IntKind} {l c : Int} : imake Try.prog sz 92 (.int k l) (.int k' c) = imk sz 1 4 [.int .u32 0] l c := imake_of (by kernel_rfl)
@[go_sem] theorem el_92 : elts Try.prog 92 = some (.slice 1) := by kernel_rfl
@[go_sem] theorem tc_121 : tcell Try.prog 121 = some none := by kernel_rfl
@[go_sem] theorem ts_121 : tsize Try.prog 121 = some 1 := by kernel_rfl
@[go_sem] theorem bs_92_2 {sz : Nat} {ps : Array (Nat × Operand)} {ρ : Operand → Value} : iop0 Try.prog sz (.buildSlice 92 2 ps) ρ = bsl sz 2 1 [.int .u32 0, .int .u32 0] (ps.toList.map fun p => (p.1, ρ p.2)) := iop0_buildSlice_of (by kernel_rfl)
@[go_sem] theorem fo_98_0 : foff Try.prog 98 0 = some 0 := by kernel_rfl
@[go_sem] theorem bs_179_1 {sz : Nat} {ps : Array (Nat × Operand)} {ρ : Operand → Value} : iop0 Try.prog sz (.buildSlice 179 1 ps) ρ = bsl sz 1 2 [.slice none 0 0, .bool false] (ps.toList.map fun p => (p.1, ρ p.2)) := iop0_buildSlice_of (by kernel_rfl)
@[go_sem] theorem fo_96_0 : foff Try.prog 96 0 = some 0 := by kernel_rfl
attribute [go_sem] Try.underlying4
attribute [go_sem] Try.underlying179
@[go_sem] theorem el_179 : elts Try.prog 179 = some (.slice 2) := by kernel_rfl
@[go_sem] theorem fo_96_1 : foff Try.prog 96 1 = some 1 := by kernel_rfl
@[go_sem] theorem tc_4 : tcell Try.prog 4 = some none := by kernel_rfl
@[go_sem] theorem fo_98_1 : foff Try.prog 98 1 = some 2 := by kernel_rfl
@[go_sem] theorem fp_94_0 : fpart Try.prog 94 0 = some (false, 0, 1) := by kernel_rfl
attribute [go_sem] Try.underlying89
end Go.Proofs.Ytjlaenglmdpboaa.Hd
