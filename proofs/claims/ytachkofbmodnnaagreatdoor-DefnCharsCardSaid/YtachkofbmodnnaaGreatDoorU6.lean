/- Proved here: parts of the way to BDefnChars (BHd BN1); no condition beyond those that each theorem names. -/
import Derived.Test.YtachkofbmodnnaaGreatDoorU4
import Derived.Test.YtachkofbmodnnaaGreatDoorProg
import Derived.Test.YtachkofbmodnnaaGreatDoorU5
import Derived.KernelRfl
set_option linter.unusedSimpArgs false
set_option linter.unusedVariables false
namespace Go.Proofs.YtachkofbmodnnaaGreatDoor.Hd
open Go Go.Im Go.Proofs Go.RowKit
set_option maxRecDepth 100000
attribute [go_sem] Tryz.f5 Tryz.f6 Tryz.f7 Tryz.f9 Tryz.f10 Tryz.f11 Tryz.f12 Tryz.f13 Tryz.f14 Tryz.f15 Tryz.f16 Tryz.f21 Tryz.f22 Tryz.f23 Tryz.f24 Tryz.f25 Tryz.f26 Tryz.f27 Tryz.f28 Tryz.f29 Tryz.f30 Tryz.f33 Tryz.f34 Tryz.f35 Tryz.f36 Tryz.f37 Tryz.f38 Tryz.f39 Tryz.f40 Tryz.f41 Tryz.f42 Tryz.f43 Tryz.f44 Tryz.f45 Tryz.f46 Tryz.f47 Tryz.f48 Tryz.f49 Tryz.f50 Tryz.f51 Tryz.f52 Tryz.f53 Tryz.f54 Tryz.f56 Tryz.f57 Tryz.f58 Tryz.f59 Tryz.f60 Tryz.f61 Tryz.f62 Tryz.f63 Tryz.f64 Tryz.f65 Tryz.f66 Tryz.f67 Tryz.f68 Tryz.f69 Tryz.f70 Tryz.f71 Tryz.f72 Tryz.f73 Tryz.f74 Tryz.f76 Tryz.f77 Tryz.f80 Tryz.f81 Tryz.f82 Tryz.f83 Tryz.f84 Tryz.f85 Tryz.f86 Tryz.f87 Tryz.f88 Tryz.f89 Tryz.f92 Tryz.f93 Tryz.f94 Tryz.f95 Tryz.f96 Tryz.f97 Tryz.f98 Tryz.f99 Tryz.f100 Tryz.f101 Tryz.f102 Tryz.f103 Tryz.f106 Tryz.f107 Tryz.f108 Tryz.f109 Tryz.f110 Tryz.f111 Tryz.f112 Tryz.f113 Tryz.f114 Tryz.f115 Tryz.f116 Tryz.f117 Tryz.f119 Tryz.f120 Tryz.f121 Tryz.f122 Tryz.f123 Tryz.f124 Tryz.f125 Tryz.f126 Tryz.f127 Tryz.f128 Tryz.f129 Tryz.f130 Tryz.f131 Tryz.f141 Tryz.f143 Tryz.f144 Tryz.f145 Tryz.f146 Tryz.f147 Tryz.f148 Tryz.f149 Tryz.f150 Tryz.f151 Tryz.f152 Tryz.f153 Tryz.f154 Tryz.f155 Tryz.f157 Tryz.f158 Tryz.f159 Tryz.f160 Tryz.f161 Tryz.f162 Tryz.f169 Tryz.f170 Tryz.f171 Tryz.f172 Tryz.f173 Tryz.f174 Tryz.f175 Tryz.f176 Tryz.f177 Tryz.f178 Tryz.f179 Tryz.f180 Tryz.f181 Tryz.f182 Tryz.f183 Tryz.f185 Tryz.f186 Tryz.f187 Tryz.f188 Tryz.f189 Tryz.f190 Tryz.f191 Tryz.f192 Tryz.f193 Tryz.f194 Tryz.f195 Tryz.f196 Tryz.f197 Tryz.f198 Tryz.f199 Tryz.f200 Tryz.f201 Tryz.f202 Tryz.f203 Tryz.f204 Tryz.f205 Tryz.f206
noncomputable def K:Cfg:=cfgx Tryz.prog (T:=X2.tabs) [5,6,7,9,10,11,12,13,14,15,16,21,22,23,24,25,26,27,28,29,30,33,34,35,36,37,38,39,40,41,42,43,44,45,46,47,48,49,50,51,52,53,54,56,57,58,59,60,61,62,63,64,65,66,67,68,69,70,71,72,73,74,76,77,80,81,82,83,84,85,86,87,88,89,92,93,94,95,96,97,98,99,100,101,102,103,106,107,108,109,110,111,112,113,114,115,116,117,119,120,121,122,123,124,125,126,127,128,129,130,131,141,143,144,145,146,147,148,149,150,151,152,153,154,155,157,158,159,160,161,162,169,170,171,172,173,174,175,176,177,178,179,180,181,182,183,185,186,187,188,189,190,191,192,193,194,195,196,197,198,199,200,201,202,203,204,205,206] [(6,(18,[29,8])),(9,(7,[])),(10,(7,[])),(11,(1,[45])),(12,(1,[47])),(15,(2,[51])),(15,(9,[48,47])),(22,(1,[59,61,62])),(30,(1,[])),(30,(5,[])),(33,(22,[])),(39,(27,[85])),(46,(1,[])),(48,(1,[])),(64,(1,[98])),(70,(4,[])),(74,(1,[103])),(96,(4,[121])),(99,(1,[124])),(100,(5,[128])),(100,(6,[])),(121,(1,[])),(127,(14,[122,159])),(128,(3,[160])),(128,(6,[])),(162,(7,[])),(172,(1,[])),(176,(2,[188])),(176,(3,[190])),(186,(4,[128])),(187,(1,[128])),(188,(1,[199])),(190,(1,[199])),(200,(1,[178])),(206,(9,[]))] [(33,(6,[(5,7)])),(33,(13,[(5,7)])),(33,(15,[(5,10),(8,10),(8,12)])),(100,(6,[(5,8)])),(130,(7,[(9,12)])),(160,(9,[(1,2)])),(162,(4,[(1,2)])),(162,(9,[(1,2)]))] [law24.awake] [X1.sortX,X1.compX,X1.textX,X2.validX]
attribute [go_sem] Nat.add_eq_left Nat.left_eq_add
@[go_sem] theorem KP:K.P=Tryz.prog:=rfl
@[go_sem] theorem KD {f r:Nat}:K.dy f r=dyAt [(33,(6,[(5,7)])),(33,(13,[(5,7)])),(33,(15,[(5,10),(8,10),(8,12)])),(100,(6,[(5,8)])),(130,(7,[(9,12)])),(160,(9,[(1,2)])),(162,(4,[(1,2)])),(162,(9,[(1,2)]))] f r:=rfl
theorem Kok:CfgOK K:=cfgx_ok (by decide +kernel) (by decide +kernel)
theorem law24_awake_runs (h:Heap):Runs K 8 #[] h fun v _=>v= .bool true:=⟨1,.bool true,h,rfl,Ext.refl h,rfl⟩
@[go_sem] theorem ac_29:acells Tryz.prog 29=some ([.string ByteArray.empty,.string ByteArray.empty,.string ByteArray.empty,.string ByteArray.empty,.slice none 0 0,.slice none 0 0,.slice none 0 0],7):=by kernel_rfl
@[go_sem] theorem ts_29:tsize Tryz.prog 29=some 7:=by kernel_rfl
@[go_sem] theorem tc_29:tcell Tryz.prog 29=some (some 7):=by kernel_rfl
@[go_sem] theorem ac_52:acells Tryz.prog 52=some ([.slice none 0 0,.bool false,.slice none 0 0,.slice none 0 0,.bool false],5):=by kernel_rfl
@[go_sem] theorem ts_52:tsize Tryz.prog 52=some 5:=by kernel_rfl
@[go_sem] theorem tc_52:tcell Tryz.prog 52=some (some 5):=by kernel_rfl
@[go_sem] theorem bd_52 {ps:List (Nat × Value)}:ibuild Tryz.prog 52 ps=blt [(0,1),(1,1),(2,1),(3,1),(4,1)] [.slice none 0 0,.bool false,.slice none 0 0,.slice none 0 0,.bool false] ps:=ibuild_of (by kernel_rfl)
@[go_sem] theorem ts_61:tsize Tryz.prog 61=some 4:=by kernel_rfl
@[go_sem] theorem tc_61:tcell Tryz.prog 61=some (some 4):=by kernel_rfl
@[go_sem] theorem fo_61_2:foff Tryz.prog 61 2=some 2:=by kernel_rfl
@[go_sem] theorem tc_49:tcell Tryz.prog 49=some none:=by kernel_rfl
attribute [go_sem] Tryz.underlying49
@[go_sem] theorem el_49:elts Tryz.prog 49=some (.slice 1):=by kernel_rfl
@[go_sem] theorem tc_21:tcell Tryz.prog 21=some none:=by kernel_rfl
@[go_sem] theorem ac_35:acells Tryz.prog 35=some ([.string ByteArray.empty,.string ByteArray.empty,.string ByteArray.empty,.string ByteArray.empty,.slice none 0 0,.slice none 0 0,.slice none 0 0],7):=by kernel_rfl
@[go_sem] theorem ts_35:tsize Tryz.prog 35=some 7:=by kernel_rfl
@[go_sem] theorem tc_35:tcell Tryz.prog 35=some (some 7):=by kernel_rfl
@[go_sem] theorem ac_61:acells Tryz.prog 61=some ([.slice none 0 0,.bool false,.slice none 0 0,.slice none 0 0],4):=by kernel_rfl
attribute [go_sem] Tryz.underlying4
attribute [go_sem] Tryz.underlying22
@[go_sem] theorem el_22:elts Tryz.prog 22=some (.slice 1):=by kernel_rfl
@[go_sem] theorem tc_9:tcell Tryz.prog 9=some none:=by kernel_rfl
attribute [go_sem] Tryz.underlying9
@[go_sem] theorem bd_29 {ps:List (Nat × Value)}:ibuild Tryz.prog 29 ps=blt [(0,5),(5,1),(6,1)] [.string ByteArray.empty,.string ByteArray.empty,.string ByteArray.empty,.string ByteArray.empty,.slice none 0 0,.slice none 0 0,.slice none 0 0] ps:=ibuild_of (by kernel_rfl)
@[go_sem] theorem cv_9_49 {h:Heap} {s:List UInt8}:iconvert Tryz.prog h 9 49 (.string (text s))=icvt (some .i32) s h:=iconvert_text Tryz.underlying9 (by kernel_rfl)
@[go_sem] theorem ac_26:acells Tryz.prog 26=some ([.string ByteArray.empty,.string ByteArray.empty,.string ByteArray.empty,.string ByteArray.empty,.slice none 0 0],5):=by kernel_rfl
@[go_sem] theorem ts_26:tsize Tryz.prog 26=some 5:=by kernel_rfl
@[go_sem] theorem tc_26:tcell Tryz.prog 26=some (some 5):=by kernel_rfl
@[go_sem] theorem fo_26_0:foff Tryz.prog 26 0=some 0:=by kernel_rfl
@[go_sem] theorem bs_22_1 {sz:Nat} {ps:Array (Nat × Operand)} {ρ:Operand→Value}:iop0 Tryz.prog sz (.buildSlice 22 1 ps) ρ=bsl sz 1 1 [.string ByteArray.empty] (ps.toList.map fun p=>(p.1,ρ p.2)):=iop0_buildSlice_of (by kernel_rfl)
@[go_sem] theorem ap_22_22 {low:Nat} {h:Heap} {s:Value} {a:Option Addr} {k c:Nat}:iappend Tryz.prog low h #[22,22] s (.slice a k c)=iapp low h 1 16 s k (islice h 1 (.slice a k c)):=iappend_slice (by kernel_rfl) Tryz.underlying22
@[go_sem] theorem fo_29_2:foff Tryz.prog 29 2=some 6:=by kernel_rfl
@[go_sem] theorem tc_27:tcell Tryz.prog 27=some none:=by kernel_rfl
@[go_sem] theorem bd_84 {ps:List (Nat × Value)}:ibuild Tryz.prog 84 ps=blt [(0,1),(1,1)] [.string ByteArray.empty,.int .i64 0] ps:=ibuild_of (by kernel_rfl)
@[go_sem] theorem bs_27_1 {sz:Nat} {ps:Array (Nat × Operand)} {ρ:Operand→Value}:iop0 Tryz.prog sz (.buildSlice 27 1 ps) ρ=bsl sz 1 2 [.string ByteArray.empty,.int .i64 0] (ps.toList.map fun p=>(p.1,ρ p.2)):=iop0_buildSlice_of (by kernel_rfl)
@[go_sem] theorem ap_27_27 {low:Nat} {h:Heap} {s:Value} {a:Option Addr} {k c:Nat}:iappend Tryz.prog low h #[27,27] s (.slice a k c)=iapp low h 2 24 s k (islice h 2 (.slice a k c)):=iappend_slice (by kernel_rfl) Tryz.underlying27
@[go_sem] theorem ts_27:tsize Tryz.prog 27=some 1:=by kernel_rfl
@[go_sem] theorem fo_29_1:foff Tryz.prog 29 1=some 5:=by kernel_rfl
@[go_sem] theorem tc_22:tcell Tryz.prog 22=some none:=by kernel_rfl
@[go_sem] theorem cv_49_9 {h:Heap} {a:Option Addr} {n c:Nat}:iconvert Tryz.prog h 49 9 (.slice a n c)=icvs (some .i32) (islice h 1 (.slice a n c)) h:=iconvert_slice (by kernel_rfl) Tryz.underlying9
@[go_sem] theorem ts_22:tsize Tryz.prog 22=some 1:=by kernel_rfl
@[go_sem] theorem bd_35 {ps:List (Nat × Value)}:ibuild Tryz.prog 35 ps=blt [(0,5),(5,1),(6,1)] [.string ByteArray.empty,.string ByteArray.empty,.string ByteArray.empty,.string ByteArray.empty,.slice none 0 0,.slice none 0 0,.slice none 0 0] ps:=ibuild_of (by kernel_rfl)
@[go_sem] theorem ac_32:acells Tryz.prog 32=some ([.string ByteArray.empty,.string ByteArray.empty,.string ByteArray.empty,.string ByteArray.empty,.slice none 0 0],5):=by kernel_rfl
@[go_sem] theorem ts_32:tsize Tryz.prog 32=some 5:=by kernel_rfl
@[go_sem] theorem tc_32:tcell Tryz.prog 32=some (some 5):=by kernel_rfl
@[go_sem] theorem fo_32_0:foff Tryz.prog 32 0=some 0:=by kernel_rfl
@[go_sem] theorem fo_35_2:foff Tryz.prog 35 2=some 6:=by kernel_rfl
@[go_sem] theorem tc_33:tcell Tryz.prog 33=some none:=by kernel_rfl
@[go_sem] theorem bd_91 {ps:List (Nat × Value)}:ibuild Tryz.prog 91 ps=blt [(0,1),(1,1)] [.string ByteArray.empty,.int .i64 0] ps:=ibuild_of (by kernel_rfl)
@[go_sem] theorem bs_33_1 {sz:Nat} {ps:Array (Nat × Operand)} {ρ:Operand→Value}:iop0 Tryz.prog sz (.buildSlice 33 1 ps) ρ=bsl sz 1 2 [.string ByteArray.empty,.int .i64 0] (ps.toList.map fun p=>(p.1,ρ p.2)):=iop0_buildSlice_of (by kernel_rfl)
@[go_sem] theorem ap_33_33 {low:Nat} {h:Heap} {s:Value} {a:Option Addr} {k c:Nat}:iappend Tryz.prog low h #[33,33] s (.slice a k c)=iapp low h 2 24 s k (islice h 2 (.slice a k c)):=iappend_slice (by kernel_rfl) Tryz.underlying33
@[go_sem] theorem ts_33:tsize Tryz.prog 33=some 1:=by kernel_rfl
@[go_sem] theorem fo_35_1:foff Tryz.prog 35 1=some 5:=by kernel_rfl
@[go_sem] theorem fo_29_0:foff Tryz.prog 29 0=some 0:=by kernel_rfl
@[go_sem] theorem fo_35_0:foff Tryz.prog 35 0=some 0:=by kernel_rfl
attribute [go_sem] Tryz.underlying27
attribute [go_sem] Tryz.underlying33
@[go_sem] theorem el_27:elts Tryz.prog 27=some (.slice 2):=by kernel_rfl
@[go_sem] theorem fo_84_0:foff Tryz.prog 84 0=some 0:=by kernel_rfl
@[go_sem] theorem el_33:elts Tryz.prog 33=some (.slice 2):=by kernel_rfl
@[go_sem] theorem fo_91_0:foff Tryz.prog 91 0=some 0:=by kernel_rfl
@[go_sem] theorem fo_84_1:foff Tryz.prog 84 1=some 1:=by kernel_rfl
@[go_sem] theorem tc_3:tcell Tryz.prog 3=some none:=by kernel_rfl
@[go_sem] theorem fo_91_1:foff Tryz.prog 91 1=some 1:=by kernel_rfl
@[go_sem] theorem ap_49_49 {low:Nat} {h:Heap} {s:Value} {a:Option Addr} {k c:Nat}:iappend Tryz.prog low h #[49,49] s (.slice a k c)=iapp low h 1 4 s k (islice h 1 (.slice a k c)):=iappend_slice (by kernel_rfl) Tryz.underlying49
@[go_sem] theorem bs_49_1 {sz:Nat} {ps:Array (Nat × Operand)} {ρ:Operand→Value}:iop0 Tryz.prog sz (.buildSlice 49 1 ps) ρ=bsl sz 1 1 [.int .i32 0] (ps.toList.map fun p=>(p.1,ρ p.2)):=iop0_buildSlice_of (by kernel_rfl)
@[go_sem] theorem bs_48_2 {sz:Nat} {ps:Array (Nat × Operand)} {ρ:Operand→Value}:iop0 Tryz.prog sz (.buildSlice 48 2 ps) ρ=bsl sz 2 1 [.int .i64 0,.int .i64 0] (ps.toList.map fun p=>(p.1,ρ p.2)):=iop0_buildSlice_of (by kernel_rfl)
@[go_sem] theorem fo_52_1:foff Tryz.prog 52 1=some 1:=by kernel_rfl
@[go_sem] theorem tc_4:tcell Tryz.prog 4=some none:=by kernel_rfl
@[go_sem] theorem fo_52_2:foff Tryz.prog 52 2=some 2:=by kernel_rfl
@[go_sem] theorem fo_52_3:foff Tryz.prog 52 3=some 3:=by kernel_rfl
@[go_sem] theorem tc_50:tcell Tryz.prog 50=some none:=by kernel_rfl
attribute [go_sem] Tryz.underlying48
@[go_sem] theorem el_48:elts Tryz.prog 48=some (.slice 1):=by kernel_rfl
@[go_sem] theorem mk_22 {sz:Nat} {k k':IntKind} {l c:Int}:imake Tryz.prog sz 22 (.int k l) (.int k' c)=imk sz 1 16 [.string ByteArray.empty] l c:=imake_of (by kernel_rfl)
@[go_sem] theorem ts_9:tsize Tryz.prog 9=some 1:=by kernel_rfl
@[go_sem] theorem fo_61_3:foff Tryz.prog 61 3=some 3:=by kernel_rfl
@[go_sem] theorem tc_59:tcell Tryz.prog 59=some none:=by kernel_rfl
attribute [go_sem] Tryz.underlying59
@[go_sem] theorem fo_61_0:foff Tryz.prog 61 0=some 0:=by kernel_rfl
@[go_sem] theorem tc_48:tcell Tryz.prog 48=some none:=by kernel_rfl
@[go_sem] theorem el_59:elts Tryz.prog 59=some (.slice 3):=by kernel_rfl
@[go_sem] theorem fo_118_1:foff Tryz.prog 118 1=some 1:=by kernel_rfl
@[go_sem] theorem fo_118_2:foff Tryz.prog 118 2=some 2:=by kernel_rfl
@[go_sem] theorem fo_61_1:foff Tryz.prog 61 1=some 1:=by kernel_rfl
@[go_sem] theorem bd_61 {ps:List (Nat × Value)}:ibuild Tryz.prog 61 ps=blt [(0,1),(1,1),(2,1),(3,1)] [.slice none 0 0,.bool false,.slice none 0 0,.slice none 0 0] ps:=ibuild_of (by kernel_rfl)
@[go_sem] theorem bs_48_1 {sz:Nat} {ps:Array (Nat × Operand)} {ρ:Operand→Value}:iop0 Tryz.prog sz (.buildSlice 48 1 ps) ρ=bsl sz 1 1 [.int .i64 0] (ps.toList.map fun p=>(p.1,ρ p.2)):=iop0_buildSlice_of (by kernel_rfl)
@[go_sem] theorem ts_49:tsize Tryz.prog 49=some 1:=by kernel_rfl
@[go_sem] theorem tc_118:tcell Tryz.prog 118=some (some 3):=by kernel_rfl
attribute [go_sem] Tryz.underlying118
attribute [go_sem] Tryz.underlying50
@[go_sem] theorem el_50:elts Tryz.prog 50=some (.slice 3):=by kernel_rfl
@[go_sem] theorem tc_113:tcell Tryz.prog 113=some (some 3):=by kernel_rfl
@[go_sem] theorem ac_113:acells Tryz.prog 113=some ([.slice none 0 0,.bool false,.slice none 0 0],3):=by kernel_rfl
@[go_sem] theorem ts_113:tsize Tryz.prog 113=some 3:=by kernel_rfl
@[go_sem] theorem bs_59_1 {sz:Nat} {ps:Array (Nat × Operand)} {ρ:Operand→Value}:iop0 Tryz.prog sz (.buildSlice 59 1 ps) ρ=bsl sz 1 3 [.bool false,.string ByteArray.empty,.string ByteArray.empty] (ps.toList.map fun p=>(p.1,ρ p.2)):=iop0_buildSlice_of (by kernel_rfl)
@[go_sem] theorem ap_59_59 {low:Nat} {h:Heap} {s:Value} {a:Option Addr} {k c:Nat}:iappend Tryz.prog low h #[59,59] s (.slice a k c)=iapp low h 3 40 s k (islice h 3 (.slice a k c)):=iappend_slice (by kernel_rfl) Tryz.underlying59
@[go_sem] theorem ts_59:tsize Tryz.prog 59=some 1:=by kernel_rfl
@[go_sem] theorem bd_26 {ps:List (Nat × Value)}:ibuild Tryz.prog 26 ps=blt [(0,1),(1,1),(2,1),(3,1),(4,1)] [.string ByteArray.empty,.string ByteArray.empty,.string ByteArray.empty,.string ByteArray.empty,.slice none 0 0] ps:=ibuild_of (by kernel_rfl)
attribute [go_sem] Tryz.underlying77
@[go_sem] theorem el_77:elts Tryz.prog 77=some (.slice 9):=by kernel_rfl
@[go_sem] theorem fo_131_0:foff Tryz.prog 131 0=some 0:=by kernel_rfl
@[go_sem] theorem tc_131:tcell Tryz.prog 131=some (some 9):=by kernel_rfl
@[go_sem] theorem fo_131_2:foff Tryz.prog 131 2=some 2:=by kernel_rfl
@[go_sem] theorem fo_26_1:foff Tryz.prog 26 1=some 1:=by kernel_rfl
@[go_sem] theorem fo_26_3:foff Tryz.prog 26 3=some 3:=by kernel_rfl
@[go_sem] theorem fo_26_2:foff Tryz.prog 26 2=some 2:=by kernel_rfl
@[go_sem] theorem fo_26_4:foff Tryz.prog 26 4=some 4:=by kernel_rfl
@[go_sem] theorem bs_22_3 {sz:Nat} {ps:Array (Nat × Operand)} {ρ:Operand→Value}:iop0 Tryz.prog sz (.buildSlice 22 3 ps) ρ=bsl sz 3 1 [.string ByteArray.empty,.string ByteArray.empty,.string ByteArray.empty] (ps.toList.map fun p=>(p.1,ρ p.2)):=iop0_buildSlice_of (by kernel_rfl)
@[go_sem] theorem bd_137 {ps:List (Nat × Value)}:ibuild Tryz.prog 137 ps=blt [(0,1),(1,1),(2,1)] [.slice none 0 0,.int .i64 0,.slice none 0 0] ps:=ibuild_of (by kernel_rfl)
@[go_sem] theorem ts_137:tsize Tryz.prog 137=some 3:=by kernel_rfl
@[go_sem] theorem fo_137_1:foff Tryz.prog 137 1=some 1:=by kernel_rfl
@[go_sem] theorem fo_137_2:foff Tryz.prog 137 2=some 2:=by kernel_rfl
@[go_sem] theorem tc_77:tcell Tryz.prog 77=some none:=by kernel_rfl
@[go_sem] theorem fo_131_1:foff Tryz.prog 131 1=some 1:=by kernel_rfl
@[go_sem] theorem bd_32 {ps:List (Nat × Value)}:ibuild Tryz.prog 32 ps=blt [(0,1),(1,1),(2,1),(3,1),(4,1)] [.string ByteArray.empty,.string ByteArray.empty,.string ByteArray.empty,.string ByteArray.empty,.slice none 0 0] ps:=ibuild_of (by kernel_rfl)
attribute [go_sem] Tryz.underlying88
@[go_sem] theorem el_88:elts Tryz.prog 88=some (.slice 8):=by kernel_rfl
@[go_sem] theorem tc_142:tcell Tryz.prog 142=some (some 8):=by kernel_rfl
@[go_sem] theorem fo_142_2:foff Tryz.prog 142 2=some 2:=by kernel_rfl
@[go_sem] theorem fo_32_1:foff Tryz.prog 32 1=some 1:=by kernel_rfl
@[go_sem] theorem fo_32_2:foff Tryz.prog 32 2=some 2:=by kernel_rfl
@[go_sem] theorem fo_32_3:foff Tryz.prog 32 3=some 3:=by kernel_rfl
@[go_sem] theorem fo_32_4:foff Tryz.prog 32 4=some 4:=by kernel_rfl
@[go_sem] theorem ac_142:acells Tryz.prog 142=some ([.int .i64 0,.int .i64 0,.string ByteArray.empty,.int .i32 0,.slice none 0 0,.bool false,.slice none 0 0,.slice none 0 0],8):=by kernel_rfl
@[go_sem] theorem ts_142:tsize Tryz.prog 142=some 8:=by kernel_rfl
@[go_sem] theorem bs_88_1 {sz:Nat} {ps:Array (Nat × Operand)} {ρ:Operand→Value}:iop0 Tryz.prog sz (.buildSlice 88 1 ps) ρ=bsl sz 1 8 [.int .i64 0,.int .i64 0,.string ByteArray.empty,.int .i32 0,.slice none 0 0,.bool false,.slice none 0 0,.slice none 0 0] (ps.toList.map fun p=>(p.1,ρ p.2)):=iop0_buildSlice_of (by kernel_rfl)
@[go_sem] theorem ap_88_88 {low:Nat} {h:Heap} {s:Value} {a:Option Addr} {k c:Nat}:iappend Tryz.prog low h #[88,88] s (.slice a k c)=iapp low h 8 120 s k (islice h 8 (.slice a k c)):=iappend_slice (by kernel_rfl) Tryz.underlying88
@[go_sem] theorem fo_142_1:foff Tryz.prog 142 1=some 1:=by kernel_rfl
@[go_sem] theorem tc_84:tcell Tryz.prog 84=some (some 2):=by kernel_rfl
attribute [go_sem] Tryz.underlying84
@[go_sem] theorem tc_91:tcell Tryz.prog 91=some (some 2):=by kernel_rfl
attribute [go_sem] Tryz.underlying91
attribute [go_sem] Tryz.underlying3
attribute [go_sem] Tryz.underlying129
@[go_sem] theorem mk_49 {sz:Nat} {k k':IntKind} {l c:Int}:imake Tryz.prog sz 49 (.int k l) (.int k' c)=imk sz 1 4 [.int .i32 0] l c:=imake_of (by kernel_rfl)
@[go_sem] theorem fo_52_4:foff Tryz.prog 52 4=some 4:=by kernel_rfl
@[go_sem] theorem fo_52_0:foff Tryz.prog 52 0=some 0:=by kernel_rfl
@[go_sem] theorem fo_113_0:foff Tryz.prog 113 0=some 0:=by kernel_rfl
@[go_sem] theorem tc_111:tcell Tryz.prog 111=some (some 2):=by kernel_rfl
@[go_sem] theorem bs_182_1 {sz:Nat} {ps:Array (Nat × Operand)} {ρ:Operand→Value}:iop0 Tryz.prog sz (.buildSlice 182 1 ps) ρ=bsl sz 1 2 [.slice none 0 0,.bool false] (ps.toList.map fun p=>(p.1,ρ p.2)):=iop0_buildSlice_of (by kernel_rfl)
@[go_sem] theorem ac_118:acells Tryz.prog 118=some ([.bool false,.string ByteArray.empty,.string ByteArray.empty],3):=by kernel_rfl
@[go_sem] theorem ts_118:tsize Tryz.prog 118=some 3:=by kernel_rfl
@[go_sem] theorem bs_50_1 {sz:Nat} {ps:Array (Nat × Operand)} {ρ:Operand→Value}:iop0 Tryz.prog sz (.buildSlice 50 1 ps) ρ=bsl sz 1 3 [.slice none 0 0,.bool false,.slice none 0 0] (ps.toList.map fun p=>(p.1,ρ p.2)):=iop0_buildSlice_of (by kernel_rfl)
@[go_sem] theorem ap_50_50 {low:Nat} {h:Heap} {s:Value} {a:Option Addr} {k c:Nat}:iappend Tryz.prog low h #[50,50] s (.slice a k c)=iapp low h 3 56 s k (islice h 3 (.slice a k c)):=iappend_slice (by kernel_rfl) Tryz.underlying50
@[go_sem] theorem ts_50:tsize Tryz.prog 50=some 1:=by kernel_rfl
@[go_sem] theorem fo_111_0:foff Tryz.prog 111 0=some 0:=by kernel_rfl
@[go_sem] theorem tc_109:tcell Tryz.prog 109=some (some 1):=by kernel_rfl
@[go_sem] theorem bd_118 {ps:List (Nat × Value)}:ibuild Tryz.prog 118 ps=blt [(0,1),(1,1),(2,1)] [.bool false,.string ByteArray.empty,.string ByteArray.empty] ps:=ibuild_of (by kernel_rfl)
@[go_sem] theorem ts_131:tsize Tryz.prog 131=some 9:=by kernel_rfl
@[go_sem] theorem fo_131_3:foff Tryz.prog 131 3=some 3:=by kernel_rfl
@[go_sem] theorem ac_131:acells Tryz.prog 131=some ([.int .i64 0,.int .i64 0,.string ByteArray.empty,.int .i32 0,.slice none 0 0,.bool false,.slice none 0 0,.slice none 0 0,.bool false],9):=by kernel_rfl
@[go_sem] theorem bs_22_0 {sz:Nat} {ps:Array (Nat × Operand)} {ρ:Operand→Value}:iop0 Tryz.prog sz (.buildSlice 22 0 ps) ρ=bsl sz 0 1 [] (ps.toList.map fun p=>(p.1,ρ p.2)):=iop0_buildSlice_of (by kernel_rfl)
@[go_sem] theorem fo_137_0:foff Tryz.prog 137 0=some 0:=by kernel_rfl
@[go_sem] theorem ts_3:tsize Tryz.prog 3=some 1:=by kernel_rfl
@[go_sem] theorem bd_131 {ps:List (Nat × Value)}:ibuild Tryz.prog 131 ps=blt [(0,1),(1,1),(2,1),(3,1),(4,5)] [.int .i64 0,.int .i64 0,.string ByteArray.empty,.int .i32 0,.slice none 0 0,.bool false,.slice none 0 0,.slice none 0 0,.bool false] ps:=ibuild_of (by kernel_rfl)
@[go_sem] theorem fo_142_0:foff Tryz.prog 142 0=some 0:=by kernel_rfl
@[go_sem] theorem fo_142_3:foff Tryz.prog 142 3=some 3:=by kernel_rfl
@[go_sem] theorem bd_142 {ps:List (Nat × Value)}:ibuild Tryz.prog 142 ps=blt [(0,1),(1,1),(2,1),(3,1),(4,4)] [.int .i64 0,.int .i64 0,.string ByteArray.empty,.int .i32 0,.slice none 0 0,.bool false,.slice none 0 0,.slice none 0 0] ps:=ibuild_of (by kernel_rfl)
@[go_sem] theorem fo_142_4:foff Tryz.prog 142 4=some 4:=by kernel_rfl
@[go_sem] theorem ts_21:tsize Tryz.prog 21=some 1:=by kernel_rfl
@[go_sem] theorem bs_27_0 {sz:Nat} {ps:Array (Nat × Operand)} {ρ:Operand→Value}:iop0 Tryz.prog sz (.buildSlice 27 0 ps) ρ=bsl sz 0 2 [] (ps.toList.map fun p=>(p.1,ρ p.2)):=iop0_buildSlice_of (by kernel_rfl)
attribute [go_sem] Tryz.underlying177
@[go_sem] theorem bs_48_0 {sz:Nat} {ps:Array (Nat × Operand)} {ρ:Operand→Value}:iop0 Tryz.prog sz (.buildSlice 48 0 ps) ρ=bsl sz 0 1 [] (ps.toList.map fun p=>(p.1,ρ p.2)):=iop0_buildSlice_of (by kernel_rfl)
@[go_sem] theorem ap_48_48 {low:Nat} {h:Heap} {s:Value} {a:Option Addr} {k c:Nat}:iappend Tryz.prog low h #[48,48] s (.slice a k c)=iapp low h 1 8 s k (islice h 1 (.slice a k c)):=iappend_slice (by kernel_rfl) Tryz.underlying48
@[go_sem] theorem bs_49_0 {sz:Nat} {ps:Array (Nat × Operand)} {ρ:Operand→Value}:iop0 Tryz.prog sz (.buildSlice 49 0 ps) ρ=bsl sz 0 1 [] (ps.toList.map fun p=>(p.1,ρ p.2)):=iop0_buildSlice_of (by kernel_rfl)
@[go_sem] theorem ts_111:tsize Tryz.prog 111=some 2:=by kernel_rfl
@[go_sem] theorem ac_111:acells Tryz.prog 111=some ([.slice none 0 0,.bool false],2):=by kernel_rfl
attribute [go_sem] Tryz.underlying182
@[go_sem] theorem el_182:elts Tryz.prog 182=some (.slice 2):=by kernel_rfl
@[go_sem] theorem fo_111_1:foff Tryz.prog 111 1=some 1:=by kernel_rfl
@[go_sem] theorem fo_118_0:foff Tryz.prog 118 0=some 0:=by kernel_rfl
@[go_sem] theorem ac_109:acells Tryz.prog 109=some ([.slice none 0 0],1):=by kernel_rfl
@[go_sem] theorem ts_109:tsize Tryz.prog 109=some 1:=by kernel_rfl
@[go_sem] theorem bd_113 {ps:List (Nat × Value)}:ibuild Tryz.prog 113 ps=blt [(0,2),(2,1)] [.slice none 0 0,.bool false,.slice none 0 0] ps:=ibuild_of (by kernel_rfl)
@[go_sem] theorem fo_109_0:foff Tryz.prog 109 0=some 0:=by kernel_rfl
@[go_sem] theorem tc_107:tcell Tryz.prog 107=some none:=by kernel_rfl
attribute [go_sem] Tryz.underlying107
attribute [go_sem] Tryz.underlying5
@[go_sem] theorem bs_149_1 {sz:Nat} {ps:Array (Nat × Operand)} {ρ:Operand→Value}:iop0 Tryz.prog sz (.buildSlice 149 1 ps) ρ=bsl sz 1 1 [.int .u8 0] (ps.toList.map fun p=>(p.1,ρ p.2)):=iop0_buildSlice_of (by kernel_rfl)
@[go_sem] theorem ap_149_149 {low:Nat} {h:Heap} {s:Value} {a:Option Addr} {k c:Nat}:iappend Tryz.prog low h #[149,149] s (.slice a k c)=iapp low h 1 1 s k (islice h 1 (.slice a k c)):=iappend_slice (by kernel_rfl) Tryz.underlying149
attribute [go_sem] Tryz.underlying149
@[go_sem] theorem el_149:elts Tryz.prog 149=some (.slice 1):=by kernel_rfl
@[go_sem] theorem tc_5:tcell Tryz.prog 5=some none:=by kernel_rfl
@[go_sem] theorem ts_5:tsize Tryz.prog 5=some 1:=by kernel_rfl
@[go_sem] theorem cv_149_9 {h:Heap} {a:Option Addr} {n c:Nat}:iconvert Tryz.prog h 149 9 (.slice a n c)=icvs (some .u8) (islice h 1 (.slice a n c)) h:=iconvert_slice (by kernel_rfl) Tryz.underlying9
@[go_sem] theorem fo_113_1:foff Tryz.prog 113 1=some 2:=by kernel_rfl
@[go_sem] theorem bs_77_1 {sz:Nat} {ps:Array (Nat × Operand)} {ρ:Operand→Value}:iop0 Tryz.prog sz (.buildSlice 77 1 ps) ρ=bsl sz 1 9 [.int .i64 0,.int .i64 0,.string ByteArray.empty,.int .i32 0,.slice none 0 0,.bool false,.slice none 0 0,.slice none 0 0,.bool false] (ps.toList.map fun p=>(p.1,ρ p.2)):=iop0_buildSlice_of (by kernel_rfl)
@[go_sem] theorem ap_77_77 {low:Nat} {h:Heap} {s:Value} {a:Option Addr} {k c:Nat}:iappend Tryz.prog low h #[77,77] s (.slice a k c)=iapp low h 9 128 s k (islice h 9 (.slice a k c)):=iappend_slice (by kernel_rfl) Tryz.underlying77
@[go_sem] theorem ts_77:tsize Tryz.prog 77=some 1:=by kernel_rfl
@[go_sem] theorem ts_48:tsize Tryz.prog 48=some 1:=by kernel_rfl
attribute [go_sem] Tryz.underlying166
@[go_sem] theorem bd_111 {ps:List (Nat × Value)}:ibuild Tryz.prog 111 ps=blt [(0,1),(1,1)] [.slice none 0 0,.bool false] ps:=ibuild_of (by kernel_rfl)
@[go_sem] theorem mk_107 {sz:Nat} {k k':IntKind} {l c:Int}:imake Tryz.prog sz 107 (.int k l) (.int k' c)=imk sz 1 4 [.int .u32 0] l c:=imake_of (by kernel_rfl)
@[go_sem] theorem el_107:elts Tryz.prog 107=some (.slice 1):=by kernel_rfl
@[go_sem] theorem tc_177:tcell Tryz.prog 177=some none:=by kernel_rfl
@[go_sem] theorem ts_177:tsize Tryz.prog 177=some 1:=by kernel_rfl
@[go_sem] theorem el_9:elts Tryz.prog 9=some .text:=by kernel_rfl
@[go_sem] theorem bd_109 {ps:List (Nat × Value)}:ibuild Tryz.prog 109 ps=blt [(0,1)] [.slice none 0 0] ps:=ibuild_of (by kernel_rfl)
@[go_sem] theorem cv_9_149 {h:Heap} {s:List UInt8}:iconvert Tryz.prog h 9 149 (.string (text s))=icvt (some .u8) s h:=iconvert_text Tryz.underlying9 (by kernel_rfl)
@[go_sem] theorem bs_107_2 {sz:Nat} {ps:Array (Nat × Operand)} {ρ:Operand→Value}:iop0 Tryz.prog sz (.buildSlice 107 2 ps) ρ=bsl sz 2 1 [.int .u32 0,.int .u32 0] (ps.toList.map fun p=>(p.1,ρ p.2)):=iop0_buildSlice_of (by kernel_rfl)
@[go_sem] theorem bs_49_22 {sz:Nat} {ps:Array (Nat × Operand)} {ρ:Operand→Value}:iop0 Tryz.prog sz (.buildSlice 49 22 ps) ρ=bsl sz 22 1 [.int .i32 0,.int .i32 0,.int .i32 0,.int .i32 0,.int .i32 0,.int .i32 0,.int .i32 0,.int .i32 0,.int .i32 0,.int .i32 0,.int .i32 0,.int .i32 0,.int .i32 0,.int .i32 0,.int .i32 0,.int .i32 0,.int .i32 0,.int .i32 0,.int .i32 0,.int .i32 0,.int .i32 0,.int .i32 0] (ps.toList.map fun p=>(p.1,ρ p.2)):=iop0_buildSlice_of (by kernel_rfl)
@[go_sem] theorem bs_49_17 {sz:Nat} {ps:Array (Nat × Operand)} {ρ:Operand→Value}:iop0 Tryz.prog sz (.buildSlice 49 17 ps) ρ=bsl sz 17 1 [.int .i32 0,.int .i32 0,.int .i32 0,.int .i32 0,.int .i32 0,.int .i32 0,.int .i32 0,.int .i32 0,.int .i32 0,.int .i32 0,.int .i32 0,.int .i32 0,.int .i32 0,.int .i32 0,.int .i32 0,.int .i32 0,.int .i32 0] (ps.toList.map fun p=>(p.1,ρ p.2)):=iop0_buildSlice_of (by kernel_rfl)
@[go_sem] theorem bs_49_4 {sz:Nat} {ps:Array (Nat × Operand)} {ρ:Operand→Value}:iop0 Tryz.prog sz (.buildSlice 49 4 ps) ρ=bsl sz 4 1 [.int .i32 0,.int .i32 0,.int .i32 0,.int .i32 0] (ps.toList.map fun p=>(p.1,ρ p.2)):=iop0_buildSlice_of (by kernel_rfl)
@[go_sem] theorem bs_49_15 {sz:Nat} {ps:Array (Nat × Operand)} {ρ:Operand→Value}:iop0 Tryz.prog sz (.buildSlice 49 15 ps) ρ=bsl sz 15 1 [.int .i32 0,.int .i32 0,.int .i32 0,.int .i32 0,.int .i32 0,.int .i32 0,.int .i32 0,.int .i32 0,.int .i32 0,.int .i32 0,.int .i32 0,.int .i32 0,.int .i32 0,.int .i32 0,.int .i32 0] (ps.toList.map fun p=>(p.1,ρ p.2)):=iop0_buildSlice_of (by kernel_rfl)
@[go_sem] theorem bs_49_24 {sz:Nat} {ps:Array (Nat × Operand)} {ρ:Operand→Value}:iop0 Tryz.prog sz (.buildSlice 49 24 ps) ρ=bsl sz 24 1 [.int .i32 0,.int .i32 0,.int .i32 0,.int .i32 0,.int .i32 0,.int .i32 0,.int .i32 0,.int .i32 0,.int .i32 0,.int .i32 0,.int .i32 0,.int .i32 0,.int .i32 0,.int .i32 0,.int .i32 0,.int .i32 0,.int .i32 0,.int .i32 0,.int .i32 0,.int .i32 0,.int .i32 0,.int .i32 0,.int .i32 0,.int .i32 0] (ps.toList.map fun p=>(p.1,ρ p.2)):=iop0_buildSlice_of (by kernel_rfl)
attribute [go_sem] Tryz.underlying21
@[go_sem] theorem mk_149 {sz:Nat} {k k':IntKind} {l c:Int}:imake Tryz.prog sz 149 (.int k l) (.int k' c)=imk sz 1 1 [.int .u8 0] l c:=imake_of (by kernel_rfl)
@[go_sem] theorem bs_50_0 {sz:Nat} {ps:Array (Nat × Operand)} {ρ:Operand→Value}:iop0 Tryz.prog sz (.buildSlice 50 0 ps) ρ=bsl sz 0 3 [] (ps.toList.map fun p=>(p.1,ρ p.2)):=iop0_buildSlice_of (by kernel_rfl)
@[go_sem] theorem ts_237:tsize Tryz.prog 237=some 2:=by kernel_rfl
@[go_sem] theorem fo_237_0:foff Tryz.prog 237 0=some 0:=by kernel_rfl
@[go_sem] theorem fo_237_1:foff Tryz.prog 237 1=some 1:=by kernel_rfl
@[go_sem] theorem ac_237:acells Tryz.prog 237=some ([.bool false,.string ByteArray.empty],2):=by kernel_rfl
@[go_sem] theorem bd_237 {ps:List (Nat × Value)}:ibuild Tryz.prog 237 ps=blt [(0,1),(1,1)] [.bool false,.string ByteArray.empty] ps:=ibuild_of (by kernel_rfl)
@[go_sem] theorem tc_237:tcell Tryz.prog 237=some (some 2):=by kernel_rfl
@[go_sem] theorem fp_109_0:fpart Tryz.prog 109 0=some (false,0,1):=by kernel_rfl
@[go_sem] theorem mk_48 {sz:Nat} {k k':IntKind} {l c:Int}:imake Tryz.prog sz 48 (.int k l) (.int k' c)=imk sz 1 8 [.int .i64 0] l c:=imake_of (by kernel_rfl)
end Go.Proofs.YtachkofbmodnnaaGreatDoor.Hd
namespace Go.Proofs.YtachkofbmodnnaaGreatDoor.N1
open Go Go.Im Go.Im.Limbs Go.Proofs Go.RowKit Hd
set_option maxRecDepth 100000
theorem trim_run (ds:List Nat) (h:Heap) {a:Option Addr} {n c:Nat} (s:Sl h 1 a n c (lv ds)) (hd:Small ds) (hn:n≤1099511627776):Runs K 157 #[.slice a n c] h fun v w=>NatV w v (val ds):=by
 have hlen:ds.length=n:=by have:=s.length;rw [lv_length] at this;omega
 refine Runs.of Kok (Does.intro rfl (by decide +kernel) Tryz.func157 rfl ?_)
 simp +decide only [go_sem,WR,WS]
 have hx:Ext h (h.push (.cells [.slice none 0 0] 1)):=(Ext.refl h).push _
 have hz:(h.push (.cells [.slice none 0 0] 1)).get h.size= .cells [.slice none 0 0] 1:=by rw [Heap.get_push,if_pos rfl]
 have hs1:(h.push (.cells [.slice none 0 0] 1)).size=h.size+1:=rfl
 generalize h.push (.cells [.slice none 0 0] 1)=w0 at hx hz hs1
 refine W_loop (α:=Nat × Option Addr × Nat) (fun k e w=>k.1≤n∧e.size=22∧w=w0∧e.get 2= .pointer (some ⟨h.size,0,none⟩)∧val (ds.take k.1)=val ds∧e.get 0= .slice k.2.1 k.1 k.2.2∧Sl h 1 k.2.1 k.1 k.2.2 (lv (ds.take k.1))) (fun k=>k.1) (n,a,c) ?_ ?_
 ·refine ⟨Nat.le_refl _,by simp +decide only [go_sem],rfl,by simp +decide only [go_sem],?_,by simp +decide only [go_sem],?_⟩
  ·rw [List.take_of_length_le (by omega)]
  ·rw [List.take_of_length_le (by omega)];exact s
 ·rintro ⟨k,a',c'⟩ e w ⟨hk,hsz,rfl,g2,hv,g0,s'⟩ next
  simp only at hk hv g0 s'
  have fin:Top (ds.take k)→∀ x,NatV (w.set h.size x) (.agg #[.slice a' k c']) (val ds):=fun ht x=>by
   rw [← hv]
   exact NatV.mk (s'.ext (hx.set (Nat.le_refl _) x)) (hd.take k) ht
  by_cases h0:k=0
  ·subst h0
   have f1:=fin (by simp [Top])
   simp +decide only [go_sem,WR,WS,hsz,g0,g2,hz]
   exact f1 _
  ·have i1:(0:Int) < (k:Int):=by omega
   have i2:IntKind.i64.wrap ((k:Int) - 1)=(k:Int) - 1:=wrap_i64 (by omega) (by omega)
   have i3:(0:Int)≤(k:Int) - 1:=by omega
   have i4:(k:Int) - 1 < (k:Int):=by omega
   have i5:((k:Int) - 1).toNat=k - 1:=by omega
   obtain ⟨d,hd1⟩:∃ d,(ds.take k)[k - 1]? =some d:=⟨_,List.getElem?_eq_getElem (by simp;omega)⟩
   obtain ⟨b,o,cs,rfl,hb,hg,hc⟩:=(s'.ext hx).one (lv_get hd1)
   have hd2:ds[k - 1]? =some d:=by
    rw [List.getElem?_take] at hd1
    split at hd1
    ·exact hd1
    ·cases hd1
   have hk1:k - 1+1=k:=by omega
   by_cases hd0:(d:Int)=0
   ·obtain ⟨a2,c2,hr,s2⟩:=s'.cut hx (by omega) (lo:=none) (hi:=some (.int .i64 ((k:Int) - 1))) (l:=0) (u:=k - 1) rfl (by simp only [boundOf,i3,if_true,i5]) (Nat.zero_le _) (by omega)
    simp +decide only [go_sem,WR,WS,hsz,g0,g2,i1,i2,i3,i4,i5,Nat.mul_one,hg,hc,hd0,hr]
    have e0:d=0:=by omega
    subst e0
    refine next (k - 1,a2,c2) _ _ ⟨by simp only;omega,by simp +decide only [go_sem,hsz],rfl,by simp +decide only [go_sem,hsz,g2],?_,by simp +decide only [go_sem,hsz,Nat.sub_zero],?_⟩ (by simp only;omega)
    ·rw [← hv]
     simp only
     have:=trim_step (l:=ds) (k:=k - 1) (by omega) hd2
     rw [hk1] at this
     exact this.symm
    ·simpa [lv_take,List.take_take,Nat.min_eq_left (show k - 1≤k by omega)] using s2
   ·have f1:=fin (by
     unfold Top
     rw [List.getLast?_eq_getElem?,List.length_take,Nat.min_eq_left (by omega),hd1]
     intro hh
     cases hh
     exact hd0 rfl)
    simp +decide only [go_sem,WR,WS,hsz,g0,g2,i1,i2,i3,i4,i5,Nat.mul_one,hg,hc,hd0,hz]
    exact f1 _
theorem add32_run (x y c:Nat) (h:Heap) (hx:x < 4294967296) (hy:y < 4294967296) (hc:c≤1):Runs K 181 #[.int .u32 (x:Int),.int .u32 (y:Int),.int .u32 (c:Int)] h fun v _ =>
  v= .tuple #[.int .u32 (((x+y+c)%4294967296:Nat):Int),.int .u32 (((x+y+c) / 4294967296:Nat):Int)]:=by
 refine Runs.of Kok (Does.intro rfl (by decide +kernel) Tryz.func181 rfl ?_)
 have q:(x+y+c) / 4294967296%4294967296=(x+y+c) / 4294967296:=by omega
 simp +decide only [go_sem,WR,WS,w64 (show x < 18446744073709551616 by omega),w64 (show y < 18446744073709551616 by omega),w64 (show c < 18446744073709551616 by omega),wadd (show x+y < 18446744073709551616 by omega),wadd (show x+y+c < 18446744073709551616 by omega),w32,ishr32,q]
theorem sub32_run (x y c:Nat) (h:Heap) (hx:x < 4294967296) (hy:y < 4294967296) (hc:c≤1):Runs K 203 #[.int .u32 (x:Int),.int .u32 (y:Int),.int .u32 (c:Int)] h fun v _ =>
  v= .tuple #[.int .u32 (((x+8589934592 - y - c)%4294967296:Nat):Int),.int .u32 ((if x < y+c then 1 else 0:Nat):Int)]:=by
 refine Runs.of Kok (Does.intro rfl (by decide +kernel) Tryz.func203 rfl ?_)
 have q:((x+4294967296 - y)%4294967296+4294967296 - c)%4294967296=(x+8589934592 - y - c)%4294967296:=by omega
 have l1:4294967295 ^^^ x < 4294967296:=Nat.xor_lt_two_pow (n:=32) (by omega) hx
 have l2:x ^^^ y < 4294967296:=Nat.xor_lt_two_pow (n:=32) hx hy
 have l3:4294967295 ^^^ (x ^^^ y) < 4294967296:=Nat.xor_lt_two_pow (n:=32) (by omega) l2
 have l4:(x+8589934592 - y - c)%4294967296 < 4294967296:=Nat.mod_lt _ (by omega)
 have l5:((4294967295 ^^^ x) &&& y) < 4294967296:=Nat.lt_of_le_of_lt Nat.and_le_right hy
 have l6:((4294967295 ^^^ (x ^^^ y)) &&& ((x+8589934592 - y - c)%4294967296)) < 4294967296:=Nat.lt_of_le_of_lt Nat.and_le_right l4
 simp +decide only [go_sem,WR,WS,wsub32 (show y≤4294967296 by omega),wsub32 (show c≤4294967296 by omega),q,ixor1 hx,iand32 l1 hy,ixor32 hx hy,ixor1 l2,iand32 l3 l4,ior32 l5 l6,ishr31,borrow32 hx hy hc]
theorem of_run (m:Nat) (h:Heap) (hm:m < 18446744073709551616):Runs K 131 #[.int .u64 (m:Int)] h fun v w=>NatV w v m:=by
 refine Runs.of Kok (Does.intro rfl (by decide +kernel) Tryz.func131 rfl ?_)
 obtain ⟨w0,e0,hx,hs,z0,z1⟩:=lay2 h (.cells [.slice none 0 0] 1) (.cells [.int .u32 ((m%4294967296:Nat):Int),.int .u32 ((m / 4294967296:Nat):Int)] 1)
 have q:m / 4294967296%4294967296=m / 4294967296:=by omega
 simp +decide only [go_sem,WR,WS,w32,ishr32,q,e0]
 have sm:Small [m%4294967296,m / 4294967296]:=Small.cons (by rw [B_eq];omega) (Small.cons (by rw [B_eq];omega) Small.nil)
 refine W_call Kok (by omega) (trim_run [m%4294967296,m / 4294967296] w0 (a:=some ⟨h.size+1,0,none⟩) (n:=2) (c:=2) (.inr (.inr ⟨h.size+1,0,_,rfl,by omega,by omega,by rw [z1];rfl,by simp,rfl,.inl ⟨by omega,by simp [big]⟩⟩)) sm (by omega)) fun v w1 hx1 hv=> ?_
 have e1:val [m%4294967296,m / 4294967296]=m:=by
  simp only [val_cons,val_nil,B_eq]
  omega
 rw [e1] at hv
 obtain ⟨a,c,rfl,s⟩:=hv.open
 have z2:w1.get h.size=_:=(hx1.2 _ (by omega)).trans z0
 have hz1:=hx1.1
 obtain ⟨w2,e2,hx2,hs2,z3,z4⟩:=put1 (hx.trans hx1) (Nat.le_refl h.size) (.cells [.slice a (dig m).length c] 1)
 simp +decide only [go_sem,WR,WS,z2,e2,z3]
 exact hv.over z2 (by rfl) (by rfl) hs2 z3 z4
theorem zero_run (m:Nat) (h:Heap) {v:Value} (hv:NatV h v m):Runs K 129 #[v] h fun x _=>x= .bool (decide (m=0)):=by
 obtain ⟨a,c,rfl,s⟩:=hv.open
 refine Runs.of Kok (Does.intro rfl (by decide +kernel) Tryz.func129 rfl ?_)
 simp +decide only [go_sem,WR,WS]
 congr 1
 rw [decide_eq_decide]
 rw [← dig_nil,← List.length_eq_zero_iff]
 omega
theorem limbs_run (m:Nat) (h:Heap) {v:Value} (hv:NatV h v m):Runs K 205 #[v] h fun x _=>x= .int .i64 (((dig m).length:Nat):Int):=by
 obtain ⟨a,c,rfl,s⟩:=hv.open
 refine Runs.of Kok (Does.intro rfl (by decide +kernel) Tryz.func205 rfl ?_)
 simp +decide only [go_sem,WR,WS]
theorem one_run (m:Nat) (h:Heap) {v:Value} (hv:NatV h v m):Runs K 204 #[v] h fun x _=>x= .bool (decide (m=1)):=by
 obtain ⟨a,c,rfl,s⟩:=hv.open
 refine Runs.of Kok (Does.intro rfl (by decide +kernel) Tryz.func204 rfl ?_)
 by_cases h1:(((dig m).length:Nat):Int)=1
 ·obtain ⟨d,hd⟩:∃ d,dig m=[d]:=List.length_eq_one_iff.1 (by omega)
  have hm:m=d:=by rw [← val_dig m,hd];simp [val_cons,val_nil]
  subst hm
  obtain ⟨b,o,cs,rfl,hb,hg,hc⟩:=s.one (i:=0) (x:= .int .u32 (m:Int)) (by rw [hd];rfl)
  have hne:¬ b=h.size:=by omega
  rw [hd]
  simp +decide only [go_sem,WR,WS,List.length_cons,List.length_nil,Nat.zero_add,hne,hg,Nat.mul_one,Nat.add_zero]
  rw [Nat.add_zero] at hc
  simp +decide only [go_sem,WR,WS,hc]
  congr 1
  rw [decide_eq_decide]
  omega
 ·simp +decide only [go_sem,WR,WS,h1]
  have:¬ m=1:=by
   rintro rfl
   rw [dig_one (by omega) (by rw [B_eq];omega)] at h1
   exact h1 rfl
  simp [this]
theorem uint_run (m:Nat) (h:Heap) {v:Value} (hv:NatV h v m):Runs K 182 #[v] h fun x _ =>
  x=if m < 18446744073709551616 then .tuple #[.int .u64 (m:Int),.bool true] else .tuple #[.int .u64 0,.bool false]:=by
 obtain ⟨a,c,rfl,s⟩:=hv.open
 have hle:(dig m).length≤2↔m < 18446744073709551616:=by
  rw [dig_length]
  rfl
 refine Runs.of Kok (Does.intro rfl (by decide +kernel) Tryz.func182 rfl ?_)
 by_cases h0:(((dig m).length:Nat):Int)=0
 ·have hm:m=0:=dig_nil.1 (List.length_eq_zero_iff.1 (by omega))
  subst hm
  simp +decide only [go_sem,WR,WS,dig_zero,List.length_nil]
  rfl
 by_cases h1:(((dig m).length:Nat):Int)=1
 ·obtain ⟨d,hd⟩:∃ d,dig m=[d]:=List.length_eq_one_iff.1 (by omega)
  have hm:m=d:=by rw [← val_dig m,hd];simp [val_cons,val_nil]
  subst hm
  have hB:m < 4294967296:=dig_small m m (by rw [hd];simp)
  obtain ⟨b,o,cs,rfl,hb,hg,hc⟩:=s.one (i:=0) (x:= .int .u32 (m:Int)) (by rw [hd];rfl)
  have hne:¬ b=h.size:=by omega
  rw [Nat.add_zero] at hc
  have hlt:m < 18446744073709551616:=by omega
  rw [hd]
  simp +decide only [go_sem,WR,WS,List.length_cons,List.length_nil,Nat.zero_add,hne,hg,Nat.mul_one,Nat.add_zero,hc,w64 hlt,hlt]
 by_cases h2:(((dig m).length:Nat):Int)=2
 ·obtain ⟨d,e,hd⟩:∃ d e,dig m=[d,e]:=by
   match hq:dig m,h2 with
   | [d,e],_=>exact ⟨d,e,rfl⟩
  have hm:m=d+4294967296*e:=by rw [← val_dig m,hd];simp [val_cons,val_nil,B_eq]
  have hd1:d < 4294967296:=dig_small m d (by rw [hd];simp)
  have he1:e < 4294967296:=dig_small m e (by rw [hd];simp)
  obtain ⟨b,o,cs,rfl,hb,hg,hc⟩:=s.one (i:=0) (x:= .int .u32 (d:Int)) (by rw [hd];rfl)
  obtain ⟨b',o',cs',hbb,hb',hg',hc'⟩:=s.one (i:=1) (x:= .int .u32 (e:Int)) (by rw [hd];rfl)
  cases hbb
  rw [hg] at hg'
  cases hg'
  have hne:¬ b=h.size:=by omega
  rw [Nat.add_zero] at hc
  have hlt:m < 18446744073709551616:=by omega
  have q1:e*4294967296%18446744073709551616=e*4294967296:=by omega
  have q2:(d ||| e*4294967296)=m:=by
   rw [Nat.or_comm,or_add hd1]
   omega
  rw [hd]
  simp +decide only [go_sem,WR,WS,List.length_cons,List.length_nil,Nat.zero_add,hne,hg,Nat.mul_one,Nat.add_zero,hc,hc',w64 (show d < 18446744073709551616 by omega),w64 (show e < 18446744073709551616 by omega),ishl32,q1,ior64 (show d < 18446744073709551616 by omega) (show e*4294967296 < 18446744073709551616 by omega),q2,hlt]
 ·have hlt:¬ m < 18446744073709551616:=by
   rw [← hle]
   omega
  simp +decide only [go_sem,WR,WS,h0,h1,h2,hlt]
theorem cmp_run (x y:Nat) (h:Heap) {v u:Value} (hv:NatV h v x) (hu:NatV h u y) (hl:(dig x).length≤1099511627776):Runs K 123 #[v,u] h fun r _=>r= .int .i64 (if x < y then -1 else if x=y then 0 else 1):=by
 obtain ⟨a,c,rfl,s⟩:=hv.open
 obtain ⟨b,d,rfl,t⟩:=hu.open
 refine Runs.of Kok (Does.intro rfl (by decide +kernel) Tryz.func123 rfl ?_)
 obtain ⟨w0,e0,hx,hs,z0,z1⟩:=lay2 h (.cells [.slice a (dig x).length c] 1) (.cells [.slice b (dig y).length d] 1)
 by_cases h1:(((dig x).length:Nat):Int)=(((dig y).length:Nat):Int)
 case neg =>
  by_cases h2:(((dig x).length:Nat):Int) < (((dig y).length:Nat):Int)
  ·have:x < y:=lt_of_length (by omega)
   simp +decide only [go_sem,WR,WS,e0,z0,z1,h1,h2,this]
  ·have q:y < x:=lt_of_length (by omega)
   have q1:¬ x < y:=by omega
   have q2:¬ x=y:=by omega
   simp +decide only [go_sem,WR,WS,e0,z0,z1,h1,h2,q1,q2]
 have hlen:(dig x).length=(dig y).length:=by omega
 have i2:IntKind.i64.wrap ((((dig x).length:Nat):Int) - 1)=(((dig x).length:Nat):Int) - 1:=wrap_i64 (by omega) (by omega)
 have s0:=s.ext hx
 have t0:=t.ext hx
 rw [← hlen] at t0
 have h1':(((dig y).length:Nat):Int)=(((dig x).length:Nat):Int):=by omega
 rw [← hlen] at z1 e0 ⊢
 simp +decide only [go_sem,WR,WS,e0,z0,z1,i2]
 clear e0
 refine W_loop (α:=Nat) (fun k e w=>k≤(dig x).length∧e.size=50∧w=w0∧e.get 2= .pointer (some ⟨h.size,0,none⟩)∧e.get 3= .pointer (some ⟨h.size+1,0,none⟩)∧e.get 5= .int .i64 ((k:Int) - 1)∧(dig x).drop k=(dig y).drop k) (fun k=>k) (dig x).length ?_ ?_
 ·refine ⟨Nat.le_refl _,by simp +decide only [go_sem],rfl,by simp +decide only [go_sem],by simp +decide only [go_sem],by simp +decide only [go_sem],?_⟩
  rw [List.drop_of_length_le (Nat.le_refl _),List.drop_of_length_le (by omega)]
 ·rintro k e w ⟨hk,hsz,rfl,g2,g3,g5,hd⟩ next
  by_cases hk0:(0:Int)≤(k:Int) - 1
  case neg =>
   have:k=0:=by omega
   subst this
   have q:x=y:=dig_inj (by simpa using hd)
   have q1:¬ x < y:=by omega
   simp +decide only [go_sem,WR,WS,hsz,g2,g3,g5,hk0,q,Nat.lt_irrefl]
  have i4:(k:Int) - 1 < (((dig x).length:Nat):Int):=by omega
  have i5:((k:Int) - 1).toNat=k - 1:=by omega
  have i6:IntKind.i64.wrap ((k:Int) - 1 - 1)=((k - 1:Nat):Int) - 1:=by rw [wrap_i64 (by omega) (by omega)];omega
  obtain ⟨p,hp⟩:∃ p,(dig x)[k - 1]? =some p:=⟨_,List.getElem?_eq_getElem (by omega)⟩
  obtain ⟨q,hq⟩:∃ q,(dig y)[k - 1]? =some q:=⟨_,List.getElem?_eq_getElem (by omega)⟩
  obtain ⟨b1,o1,cs1,rfl,hb1,hg1,hc1⟩:=s0.one (lv_get hp)
  obtain ⟨b2,o2,cs2,rfl,hb2,hg2,hc2⟩:=t0.one (lv_get hq)
  have hkk:k - 1+1=k:=by omega
  by_cases hpq:(p:Int)=(q:Int)
  ·have hpq':p=q:=by omega
   subst hpq'
   simp +decide only [go_sem,WR,WS,hsz,g2,g3,g5,z0,z1,hk0,i4,i5,Nat.mul_one,hg1,hg2,hc1,hc2,i6]
   refine next (k - 1) _ _ ⟨by omega,by simp +decide only [go_sem,hsz],rfl,by simp +decide only [go_sem,hsz,g2],by simp +decide only [go_sem,hsz,g3],by simp +decide only [go_sem,hsz],?_⟩ (by omega)
   rw [List.drop_eq_getElem_cons (show k - 1 < (dig x).length by omega),List.drop_eq_getElem_cons (show k - 1 < (dig y).length by omega),hkk,hd,(List.getElem?_eq_some_iff.1 hp).2,(List.getElem?_eq_some_iff.1 hq).2]
  ·by_cases hlt:(p:Int) < (q:Int)
   ·have hxy:x < y:=by
     have:=lt_at (dig_small x) hp hq (by rw [hkk];exact hd) (by omega)
     rwa [val_dig,val_dig] at this
    simp +decide only [go_sem,WR,WS,hsz,g2,g3,g5,z0,z1,hk0,i4,i5,Nat.mul_one,hg1,hg2,hc1,hc2,hpq,hlt,hxy]
   ·have hxy:y < x:=by
     have:=lt_at (dig_small y) hq hp (by rw [hkk];exact hd.symm) (by omega)
     rwa [val_dig,val_dig] at this
    have q1:¬ x < y:=by omega
    have q2:¬ x=y:=by omega
    simp +decide only [go_sem,WR,WS,hsz,g2,g3,g5,z0,z1,hk0,i4,i5,Nat.mul_one,hg1,hg2,hc1,hc2,hpq,hlt,q1,q2]
end Go.Proofs.YtachkofbmodnnaaGreatDoor.N1
