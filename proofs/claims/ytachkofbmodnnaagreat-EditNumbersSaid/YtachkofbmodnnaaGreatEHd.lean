/- Proved here: facts about the functions and types of this seat; no condition. Written by a program (hdr.py). -/
import Derived.Test.YtachkofbmodnnaaGreatIm4
import Derived.Test.YtachkofbmodnnaaGreatProg
import Derived.Test.YtachkofbmodnnaaGreatEHdlaw28
import Derived.Test.YtachkofbmodnnaaGreatX1
import Derived.KernelRfl
namespace Go.Proofs.YtachkofbmodnnaaGreat.Hd
open Go Go.Im Go.Proofs Go.RowKit
set_option maxRecDepth 100000
abbrev f_law28_EditNumbers : Nat := 3
theorem F_law28_EditNumbers : Tryz.prog.funcs[3]? = some Tryz.f3 := Tryz.func3
abbrev f_law28_EditEnds : Nat := 4
theorem F_law28_EditEnds : Tryz.prog.funcs[4]? = some Tryz.f4 := Tryz.func4
abbrev f_edit_Read : Nat := 9
theorem F_edit_Read : Tryz.prog.funcs[9]? = some Tryz.f9 := Tryz.func9
abbrev f_ref28_Read : Nat := 10
theorem F_ref28_Read : Tryz.prog.funcs[10]? = some Tryz.f10 := Tryz.func10
abbrev f_edit_Number : Nat := 11
theorem F_edit_Number : Tryz.prog.funcs[11]? = some Tryz.f11 := Tryz.func11
abbrev f_ref28_Number : Nat := 12
theorem F_ref28_Number : Tryz.prog.funcs[12]? = some Tryz.f12 := Tryz.func12
abbrev f_edit_Ends : Nat := 13
theorem F_edit_Ends : Tryz.prog.funcs[13]? = some Tryz.f13 := Tryz.func13
abbrev f_ref28_Ends : Nat := 14
theorem F_ref28_Ends : Tryz.prog.funcs[14]? = some Tryz.f14 := Tryz.func14
abbrev f_ref05_Runes : Nat := 15
theorem F_ref05_Runes : Tryz.prog.funcs[15]? = some Tryz.f15 := Tryz.func15
abbrev f_ref28_digit : Nat := 30
theorem F_ref28_digit : Tryz.prog.funcs[30]? = some Tryz.f30 := Tryz.func30
abbrev f_slices_Reverse_byte_byte : Nat := 31
theorem F_slices_Reverse_byte_byte : Tryz.prog.funcs[31]? = some Tryz.f31 := Tryz.func31
abbrev f_ref28_digits : Nat := 32
theorem F_ref28_digits : Tryz.prog.funcs[32]? = some Tryz.f32 := Tryz.func32
abbrev f_glyph_Trim : Nat := 33
theorem F_glyph_Trim : Tryz.prog.funcs[33]? = some Tryz.f33 := Tryz.func33
abbrev f_ref05_Trim : Nat := 34
theorem F_ref05_Trim : Tryz.prog.funcs[34]? = some Tryz.f34 := Tryz.func34
abbrev f_law28_awake : Nat := 8
attribute [go_sem] Tryz.f3 Tryz.f4 Tryz.f9 Tryz.f10 Tryz.f11 Tryz.f12 Tryz.f13 Tryz.f14 Tryz.f15 Tryz.f30 Tryz.f31 Tryz.f32 Tryz.f33 Tryz.f34
abbrev f_head_Head_Text : Nat := 37
noncomputable def K : Cfg := cfgx Tryz.prog [3, 4, 9, 10, 11, 12, 13, 14, 15, 30, 31, 32, 33, 34] [] [] [law28.awake] [X1.textX]
attribute [go_sem] Nat.add_eq_left Nat.left_eq_add
@[go_sem] theorem KP : K.P = Tryz.prog := rfl
@[go_sem] theorem KD {f r : Nat} : K.dy f r = dyAt [] f r := rfl
theorem Kok : CfgOK K := cfgx_ok (by decide +kernel) (by decide +kernel)
theorem law28_awake_runs (h : Heap) : Runs K 8 #[] h fun v _ => v = .bool true := ⟨1, .bool true, h, rfl, Ext.refl h, rfl⟩
attribute [go_sem] Tryz.underlying22
attribute [go_sem] Tryz.underlying4
attribute [go_sem] Tryz.underlying9
@[go_sem] theorem cv_9_22 {h : Heap} {s : List UInt8} : iconvert Tryz.prog h 9 22 (.string (text s)) = icvt (some .i32) s h := iconvert_text Tryz.underlying9 (by kernel_rfl)
@[go_sem] theorem el_22 : elts Tryz.prog 22 = some (.slice 1) := by kernel_rfl
@[go_sem] theorem tc_21 : tcell Tryz.prog 21 = some none := by kernel_rfl
attribute [go_sem] Tryz.underlying21
attribute [go_sem] Tryz.underlying3
@[go_sem] theorem bs_63_1 {sz : Nat} {ps : Array (Nat × Operand)} {ρ : Operand → Value} : iop0 Tryz.prog sz (.buildSlice 63 1 ps) ρ = bsl sz 1 1 [.int .u8 0] (ps.toList.map fun p => (p.1, ρ p.2)) := iop0_buildSlice_of (by kernel_rfl)
attribute [go_sem] Tryz.underlying63
attribute [go_sem] Tryz.underlying5
@[go_sem] theorem ap_63_63 {low : Nat} {h : Heap} {s : Value} {a : Option Addr} {k c : Nat} : iappend Tryz.prog low h #[63, 63] s (.slice a k c) = iapp low h 1 1 s k (islice h 1 (.slice a k c)) := iappend_slice (by kernel_rfl) Tryz.underlying63
@[go_sem] theorem el_63 : elts Tryz.prog 63 = some (.slice 1) := by kernel_rfl
@[go_sem] theorem cv_63_9 {h : Heap} {a : Option Addr} {n c : Nat} : iconvert Tryz.prog h 63 9 (.slice a n c) = icvs (some .u8) (islice h 1 (.slice a n c)) h := iconvert_slice (by kernel_rfl) Tryz.underlying9
@[go_sem] theorem el_9 : elts Tryz.prog 9 = some .text := by kernel_rfl
@[go_sem] theorem tc_5 : tcell Tryz.prog 5 = some none := by kernel_rfl
@[go_sem] theorem ts_5 : tsize Tryz.prog 5 = some 1 := by kernel_rfl
end Go.Proofs.YtachkofbmodnnaaGreat.Hd
