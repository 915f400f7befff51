/- Proved here: facts about the functions and types of this seat; no condition. Written by a program (hdr.py). -/
import Derived.Test.YtjamnjbfcecnnaaIm4
import Derived.Test.YtjamnjbfcecnnaaProg
import Derived.Test.YtjamnjbfcecnnaaLHdlaw29
import Derived.Test.YtjamnjbfcecnnaaX6
import Derived.KernelRfl
namespace Go.Proofs.Ytjamnjbfcecnnaa.Hd
open Go Go.Im Go.Proofs Go.RowKit
set_option maxRecDepth 100000
abbrev f_law29_LibPlays : Nat := 6
theorem F_law29_LibPlays : Try.prog.funcs[6]? = some Try.f6 := Try.func6
abbrev f_law29_LibNobody : Nat := 7
theorem F_law29_LibNobody : Try.prog.funcs[7]? = some Try.f7 := Try.func7
abbrev f_ref05_Texts : Nat := 9
theorem F_ref05_Texts : Try.prog.funcs[9]? = some Try.f9 := Try.func9
abbrev f_lib_New_law29_List : Nat := 19
theorem F_lib_New_law29_List : Try.prog.funcs[19]? = some Try.f19 := Try.func19
abbrev f_law29_world_does : Nat := 21
theorem F_law29_world_does : Try.prog.funcs[21]? = some Try.f21 := Try.func21
abbrev f_ref29_Names : Nat := 23
theorem F_ref29_Names : Try.prog.funcs[23]? = some Try.f23 := Try.func23
abbrev f_lib_Library_law29_List_Load : Nat := 24
theorem F_lib_Library_law29_List_Load : Try.prog.funcs[24]? = some Try.f24 := Try.func24
abbrev f_ref06_IntsSame : Nat := 25
theorem F_ref06_IntsSame : Try.prog.funcs[25]? = some Try.f25 := Try.func25
abbrev f_law29_numbers : Nat := 26
theorem F_law29_numbers : Try.prog.funcs[26]? = some Try.f26 := Try.func26
abbrev f_lib_Library_law29_List_Save : Nat := 27
theorem F_lib_Library_law29_List_Save : Try.prog.funcs[27]? = some Try.f27 := Try.func27
abbrev f_lib_Library_law29_List_Drop : Nat := 28
theorem F_lib_Library_law29_List_Drop : Try.prog.funcs[28]? = some Try.f28 := Try.func28
abbrev f_ref29_Save : Nat := 32
theorem F_ref29_Save : Try.prog.funcs[32]? = some Try.f32 := Try.func32
abbrev f_ref29_Load : Nat := 33
theorem F_ref29_Load : Try.prog.funcs[33]? = some Try.f33 := Try.func33
abbrev f_ref29_Drop : Nat := 34
theorem F_ref29_Drop : Try.prog.funcs[34]? = some Try.f34 := Try.func34
abbrev f_law29_List_Copy : Nat := 79
theorem F_law29_List_Copy : Try.prog.funcs[79]? = some Try.f79 := Try.func79
abbrev f_law29_awake : Nat := 20
attribute [go_sem] Try.f6 Try.f7 Try.f9 Try.f19 Try.f21 Try.f23 Try.f24 Try.f25 Try.f26 Try.f27 Try.f28 Try.f32 Try.f33 Try.f34 Try.f79
abbrev f_lib_Library_law29_List_Names : Nat := 22
noncomputable def K : Cfg := cfgx Try.prog (T := Tied.free) [6, 7, 9, 19, 21, 23, 24, 25, 26, 27, 28, 32, 33, 34, 79] [(6, (7, [21, 23, 9])), (6, (13, [25])), (27, (2, []))] [(21, (24, [(4, 13)]))] [law29.awake] [X6.namesX]
attribute [go_sem] Nat.add_eq_left Nat.left_eq_add
@[go_sem] theorem KP : K.P = Try.prog := rfl
@[go_sem] theorem KD {f r : Nat} : K.dy f r = dyAt [(21, (24, [(4, 13)]))] f r := rfl
theorem Kok : CfgOK K := cfgx_ok (by decide +kernel) (by decide +kernel)
theorem law29_awake_runs (h : Heap) : Runs K 20 #[] h fun v _ => v = .bool true := ⟨1, .bool true, h, rfl, Ext.refl h, rfl⟩
@[go_sem] theorem bd_47 {ps : List (Nat × Value)} : ibuild Try.prog 47 ps = blt [(0, 1), (1, 1), (2, 1), (3, 1)] [.pointer none, .slice none 0 0, .pointer none, .pointer none] ps := ibuild_of (by kernel_rfl)
@[go_sem] theorem ts_47 : tsize Try.prog 47 = some 4 := by kernel_rfl
attribute [go_sem] Try.underlying38
@[go_sem] theorem el_38 : elts Try.prog 38 = some (.slice 3) := by kernel_rfl
@[go_sem] theorem fo_50_1 : foff Try.prog 50 1 = some 1 := by kernel_rfl
@[go_sem] theorem tc_27 : tcell Try.prog 27 = some none := by kernel_rfl
attribute [go_sem] Try.underlying27
@[go_sem] theorem fo_50_2 : foff Try.prog 50 2 = some 2 := by kernel_rfl
@[go_sem] theorem tc_48 : tcell Try.prog 48 = some none := by kernel_rfl
attribute [go_sem] Try.underlying48
@[go_sem] theorem tc_50 : tcell Try.prog 50 = some (some 3) := by kernel_rfl
@[go_sem] theorem fo_47_0 : foff Try.prog 47 0 = some 0 := by kernel_rfl
@[go_sem] theorem tc_40 : tcell Try.prog 40 = some none := by kernel_rfl
@[go_sem] theorem fo_47_1 : foff Try.prog 47 1 = some 1 := by kernel_rfl
@[go_sem] theorem tc_45 : tcell Try.prog 45 = some none := by kernel_rfl
attribute [go_sem] Try.underlying45
@[go_sem] theorem el_45 : elts Try.prog 45 = some (.slice 2) := by kernel_rfl
@[go_sem] theorem fo_56_0 : foff Try.prog 56 0 = some 0 := by kernel_rfl
@[go_sem] theorem tc_9 : tcell Try.prog 9 = some none := by kernel_rfl
@[go_sem] theorem ac_44 : acells Try.prog 44 = some ([.pointer none], 1) := by kernel_rfl
@[go_sem] theorem ts_44 : tsize Try.prog 44 = some 1 := by kernel_rfl
@[go_sem] theorem tc_44 : tcell Try.prog 44 = some (some 1) := by kernel_rfl
@[go_sem] theorem fo_56_1 : foff Try.prog 56 1 = some 1 := by kernel_rfl
@[go_sem] theorem ts_50 : tsize Try.prog 50 = some 3 := by kernel_rfl
@[go_sem] theorem bd_62 {ps : List (Nat × Value)} : ibuild Try.prog 62 ps = blt [(0, 1)] [.map none] ps := ibuild_of (by kernel_rfl)
@[go_sem] theorem ts_62 : tsize Try.prog 62 = some 1 := by kernel_rfl
@[go_sem] theorem bs_63_2 {sz : Nat} {ps : Array (Nat × Operand)} {ρ : Operand → Value} : iop0 Try.prog sz (.buildSlice 63 2 ps) ρ = bsl sz 2 1 [.pointer none, .pointer none] (ps.toList.map fun p => (p.1, ρ p.2)) := iop0_buildSlice_of (by kernel_rfl)
attribute [go_sem] Try.underlying63
@[go_sem] theorem el_63 : elts Try.prog 63 = some (.slice 1) := by kernel_rfl
@[go_sem] theorem el_27 : elts Try.prog 27 = some (.slice 1) := by kernel_rfl
@[go_sem] theorem bd_44 {ps : List (Nat × Value)} : ibuild Try.prog 44 ps = blt [(0, 1)] [.pointer none] ps := ibuild_of (by kernel_rfl)
@[go_sem] theorem fo_50_0 : foff Try.prog 50 0 = some 0 := by kernel_rfl
@[go_sem] theorem tc_3 : tcell Try.prog 3 = some none := by kernel_rfl
@[go_sem] theorem bs_48_0 {sz : Nat} {ps : Array (Nat × Operand)} {ρ : Operand → Value} : iop0 Try.prog sz (.buildSlice 48 0 ps) ρ = bsl sz 0 1 [] (ps.toList.map fun p => (p.1, ρ p.2)) := iop0_buildSlice_of (by kernel_rfl)
@[go_sem] theorem ap_48_48 {low : Nat} {h : Heap} {s : Value} {a : Option Addr} {k c : Nat} : iappend Try.prog low h #[48, 48] s (.slice a k c) = iapp low h 1 8 s k (islice h 1 (.slice a k c)) := iappend_slice (by kernel_rfl) Try.underlying48
@[go_sem] theorem ac_48 : acells Try.prog 48 = some ([.slice none 0 0], 1) := by kernel_rfl
@[go_sem] theorem ts_48 : tsize Try.prog 48 = some 1 := by kernel_rfl
@[go_sem] theorem fo_47_3 : foff Try.prog 47 3 = some 3 := by kernel_rfl
@[go_sem] theorem ts_45 : tsize Try.prog 45 = some 1 := by kernel_rfl
@[go_sem] theorem fo_47_2 : foff Try.prog 47 2 = some 2 := by kernel_rfl
attribute [go_sem] Try.underlying4
@[go_sem] theorem fo_44_0 : foff Try.prog 44 0 = some 0 := by kernel_rfl
@[go_sem] theorem tc_42 : tcell Try.prog 42 = some none := by kernel_rfl
attribute [go_sem] Try.underlying42
@[go_sem] theorem bs_48_1 {sz : Nat} {ps : Array (Nat × Operand)} {ρ : Operand → Value} : iop0 Try.prog sz (.buildSlice 48 1 ps) ρ = bsl sz 1 1 [.int .i64 0] (ps.toList.map fun p => (p.1, ρ p.2)) := iop0_buildSlice_of (by kernel_rfl)
@[go_sem] theorem el_48 : elts Try.prog 48 = some (.slice 1) := by kernel_rfl
@[go_sem] theorem ts_3 : tsize Try.prog 3 = some 1 := by kernel_rfl
@[go_sem] theorem bs_27_1 {sz : Nat} {ps : Array (Nat × Operand)} {ρ : Operand → Value} : iop0 Try.prog sz (.buildSlice 27 1 ps) ρ = bsl sz 1 1 [.string ByteArray.empty] (ps.toList.map fun p => (p.1, ρ p.2)) := iop0_buildSlice_of (by kernel_rfl)
@[go_sem] theorem ap_27_27 {low : Nat} {h : Heap} {s : Value} {a : Option Addr} {k c : Nat} : iappend Try.prog low h #[27, 27] s (.slice a k c) = iapp low h 1 16 s k (islice h 1 (.slice a k c)) := iappend_slice (by kernel_rfl) Try.underlying27
attribute [go_sem] Try.underlying40
@[go_sem] theorem fo_62_0 : foff Try.prog 62 0 = some 0 := by kernel_rfl
@[go_sem] theorem tc_60 : tcell Try.prog 60 = some none := by kernel_rfl
attribute [go_sem] Try.underlying60
@[go_sem] theorem tc_56 : tcell Try.prog 56 = some (some 2) := by kernel_rfl
@[go_sem] theorem bs_45_1 {sz : Nat} {ps : Array (Nat × Operand)} {ρ : Operand → Value} : iop0 Try.prog sz (.buildSlice 45 1 ps) ρ = bsl sz 1 2 [.string ByteArray.empty, .slice none 0 0] (ps.toList.map fun p => (p.1, ρ p.2)) := iop0_buildSlice_of (by kernel_rfl)
@[go_sem] theorem ap_45_45 {low : Nat} {h : Heap} {s : Value} {a : Option Addr} {k c : Nat} : iappend Try.prog low h #[45, 45] s (.slice a k c) = iapp low h 2 40 s k (islice h 2 (.slice a k c)) := iappend_slice (by kernel_rfl) Try.underlying45
@[go_sem] theorem bd_56 {ps : List (Nat × Value)} : ibuild Try.prog 56 ps = blt [(0, 1), (1, 1)] [.string ByteArray.empty, .slice none 0 0] ps := ibuild_of (by kernel_rfl)
end Go.Proofs.Ytjamnjbfcecnnaa.Hd
