/- Proved here: parts of the way to CTokenCuts (CHd CN1); no condition beyond those that each theorem names. -/
import Derived.Test.YtjlaenglmdpboaaGreatK4
import Derived.Test.YtjlaenglmdpboaaGreatProg
import Derived.KernelRfl
set_option linter.unusedSimpArgs false
set_option linter.unusedVariables false
namespace Go.Proofs.YtjlaenglmdpboaaGreat.Hd
open Go Go.Im Go.Proofs Go.RowKit
set_option maxRecDepth 100000
attribute [go_sem] Tryz.f3 Tryz.f9 Tryz.f10 Tryz.f11 Tryz.f31 Tryz.f44 Tryz.f45 Tryz.f46 Tryz.f47 Tryz.f48 Tryz.f67 Tryz.f68 Tryz.f69 Tryz.f70 Tryz.f71 Tryz.f72 Tryz.f73 Tryz.f74 Tryz.f75 Tryz.f76 Tryz.f77 Tryz.f78 Tryz.f79 Tryz.f80 Tryz.f81 Tryz.f82 Tryz.f87 Tryz.f88 Tryz.f89 Tryz.f90 Tryz.f91 Tryz.f92 Tryz.f93 Tryz.f94 Tryz.f95 Tryz.f96 Tryz.f97 Tryz.f98 Tryz.f99 Tryz.f100 Tryz.f101 Tryz.f102 Tryz.f103 Tryz.f104 Tryz.f114 Tryz.f117 Tryz.f118 Tryz.f119 Tryz.f120 Tryz.f121 Tryz.f122 Tryz.f123 Tryz.f124 Tryz.f125 Tryz.f126 Tryz.f127 Tryz.f128 Tryz.f129 Tryz.f130 Tryz.f131 Tryz.f132 Tryz.f139 Tryz.f140 Tryz.f141 Tryz.f142 Tryz.f143 Tryz.f144 Tryz.f145 Tryz.f146 Tryz.f147 Tryz.f148 Tryz.f150 Tryz.f151 Tryz.f152 Tryz.f153 Tryz.f154 Tryz.f155 Tryz.f156 Tryz.f157 Tryz.f158 Tryz.f159 Tryz.f160 Tryz.f161 Tryz.f162 Tryz.f163 Tryz.f164 Tryz.f165 Tryz.f166 Tryz.f167 Tryz.f168 Tryz.f169 Tryz.f170 Tryz.f171 Tryz.f172 Tryz.f173 Tryz.f174 Tryz.f175 Tryz.f176 Tryz.f177 Tryz.f178 Tryz.f179
noncomputable def K:Cfg:=cfg Tryz.prog [3,9,10,11,31,44,45,46,47,48,67,68,69,70,71,72,73,74,75,76,77,78,79,80,81,82,87,88,89,90,91,92,93,94,95,96,97,98,99,100,101,102,103,104,114,117,118,119,120,121,122,123,124,125,126,127,128,129,130,131,132,139,140,141,142,143,144,145,146,147,148,150,151,152,153,154,155,156,157,158,159,160,161,162,163,164,165,166,167,168,169,170,171,172,173,174,175,176,177,178,179] [(11,(6,[47])),(48,(1,[])),(48,(5,[])),(82,(1,[104])),(119,(14,[139,140])),(121,(1,[])),(122,(1,[])),(127,(2,[144])),(127,(3,[146])),(142,(4,[152])),(143,(1,[152])),(144,(1,[155])),(146,(1,[155])),(152,(3,[161])),(152,(6,[])),(153,(4,[122])),(156,(1,[129])),(163,(7,[])),(166,(9,[]))] [(131,(7,[(9,12)])),(161,(9,[(1,2)])),(163,(4,[(1,2)])),(163,(9,[(1,2)]))] [law22.awake]
attribute [go_sem] Nat.add_eq_left Nat.left_eq_add
@[go_sem] theorem KP:K.P=Tryz.prog:=rfl
@[go_sem] theorem KD {f r:Nat}:K.dy f r=dyAt [(131,(7,[(9,12)])),(161,(9,[(1,2)])),(163,(4,[(1,2)])),(163,(9,[(1,2)]))] f r:=rfl
theorem Kok:CfgOK K:=cfg_ok (by decide +kernel) (by decide +kernel)
theorem law22_awake_runs (h:Heap):Runs K 8 #[] h fun v _=>v= .bool true:=⟨1,.bool true,h,rfl,Ext.refl h,rfl⟩
attribute [go_sem] Tryz.underlying22
attribute [go_sem] Tryz.underlying4
@[go_sem] theorem bd_81 {ps:List (Nat × Value)}:ibuild Tryz.prog 81 ps=blt [(0,1),(1,1),(2,1)] [.slice none 0 0,.int .i64 0,.slice none 0 0] ps:=ibuild_of (by kernel_rfl)
@[go_sem] theorem ts_81:tsize Tryz.prog 81=some 3:=by kernel_rfl
@[go_sem] theorem fo_81_1:foff Tryz.prog 81 1=some 1:=by kernel_rfl
@[go_sem] theorem tc_3:tcell Tryz.prog 3=some none:=by kernel_rfl
@[go_sem] theorem el_22:elts Tryz.prog 22=some (.slice 1):=by kernel_rfl
@[go_sem] theorem tc_21:tcell Tryz.prog 21=some none:=by kernel_rfl
@[go_sem] theorem fo_81_2:foff Tryz.prog 81 2=some 2:=by kernel_rfl
@[go_sem] theorem tc_24:tcell Tryz.prog 24=some none:=by kernel_rfl
@[go_sem] theorem ac_87:acells Tryz.prog 87=some ([.int .i64 0,.int .i64 0,.string ByteArray.empty,.int .i32 0,.slice none 0 0,.bool false,.slice none 0 0,.slice none 0 0],8):=by kernel_rfl
@[go_sem] theorem ts_87:tsize Tryz.prog 87=some 8:=by kernel_rfl
@[go_sem] theorem tc_87:tcell Tryz.prog 87=some (some 8):=by kernel_rfl
@[go_sem] theorem bs_27_1 {sz:Nat} {ps:Array (Nat × Operand)} {ρ:Operand→Value}:iop0 Tryz.prog sz (.buildSlice 27 1 ps) ρ=bsl sz 1 8 [.int .i64 0,.int .i64 0,.string ByteArray.empty,.int .i32 0,.slice none 0 0,.bool false,.slice none 0 0,.slice none 0 0] (ps.toList.map fun p=>(p.1,ρ p.2)):=iop0_buildSlice_of (by kernel_rfl)
@[go_sem] theorem ap_27_27 {low:Nat} {h:Heap} {s:Value} {a:Option Addr} {k c:Nat}:iappend Tryz.prog low h #[27,27] s (.slice a k c)=iapp low h 8 120 s k (islice h 8 (.slice a k c)):=iappend_slice (by kernel_rfl) Tryz.underlying27
attribute [go_sem] Tryz.underlying24
attribute [go_sem] Tryz.underlying27
@[go_sem] theorem el_24:elts Tryz.prog 24=some (.slice 9):=by kernel_rfl
@[go_sem] theorem fo_77_0:foff Tryz.prog 77 0=some 0:=by kernel_rfl
@[go_sem] theorem el_27:elts Tryz.prog 27=some (.slice 8):=by kernel_rfl
@[go_sem] theorem fo_87_0:foff Tryz.prog 87 0=some 0:=by kernel_rfl
@[go_sem] theorem fo_77_1:foff Tryz.prog 77 1=some 1:=by kernel_rfl
@[go_sem] theorem fo_87_1:foff Tryz.prog 87 1=some 1:=by kernel_rfl
@[go_sem] theorem fo_77_2:foff Tryz.prog 77 2=some 2:=by kernel_rfl
@[go_sem] theorem tc_9:tcell Tryz.prog 9=some none:=by kernel_rfl
@[go_sem] theorem fo_87_2:foff Tryz.prog 87 2=some 2:=by kernel_rfl
@[go_sem] theorem fo_77_3:foff Tryz.prog 77 3=some 3:=by kernel_rfl
@[go_sem] theorem fo_87_3:foff Tryz.prog 87 3=some 3:=by kernel_rfl
@[go_sem] theorem fo_77_4:foff Tryz.prog 77 4=some 4:=by kernel_rfl
@[go_sem] theorem tc_75:tcell Tryz.prog 75=some (some 5):=by kernel_rfl
@[go_sem] theorem fo_87_4:foff Tryz.prog 87 4=some 4:=by kernel_rfl
@[go_sem] theorem tc_85:tcell Tryz.prog 85=some (some 4):=by kernel_rfl
@[go_sem] theorem fo_81_0:foff Tryz.prog 81 0=some 0:=by kernel_rfl
@[go_sem] theorem tc_22:tcell Tryz.prog 22=some none:=by kernel_rfl
@[go_sem] theorem ts_3:tsize Tryz.prog 3=some 1:=by kernel_rfl
@[go_sem] theorem bd_77 {ps:List (Nat × Value)}:ibuild Tryz.prog 77 ps=blt [(0,1),(1,1),(2,1),(3,1),(4,5)] [.int .i64 0,.int .i64 0,.string ByteArray.empty,.int .i32 0,.slice none 0 0,.bool false,.slice none 0 0,.slice none 0 0,.bool false] ps:=ibuild_of (by kernel_rfl)
@[go_sem] theorem bd_87 {ps:List (Nat × Value)}:ibuild Tryz.prog 87 ps=blt [(0,1),(1,1),(2,1),(3,1),(4,4)] [.int .i64 0,.int .i64 0,.string ByteArray.empty,.int .i32 0,.slice none 0 0,.bool false,.slice none 0 0,.slice none 0 0] ps:=ibuild_of (by kernel_rfl)
@[go_sem] theorem ts_85:tsize Tryz.prog 85=some 4:=by kernel_rfl
attribute [go_sem] Tryz.underlying9
@[go_sem] theorem cv_22_9 {h:Heap} {a:Option Addr} {n c:Nat}:iconvert Tryz.prog h 22 9 (.slice a n c)=icvs (some .i32) (islice h 1 (.slice a n c)) h:=iconvert_slice (by kernel_rfl) Tryz.underlying9
@[go_sem] theorem ts_9:tsize Tryz.prog 9=some 1:=by kernel_rfl
@[go_sem] theorem ts_21:tsize Tryz.prog 21=some 1:=by kernel_rfl
@[go_sem] theorem fo_85_1:foff Tryz.prog 85 1=some 1:=by kernel_rfl
@[go_sem] theorem tc_4:tcell Tryz.prog 4=some none:=by kernel_rfl
@[go_sem] theorem fo_85_0:foff Tryz.prog 85 0=some 0:=by kernel_rfl
@[go_sem] theorem tc_72:tcell Tryz.prog 72=some none:=by kernel_rfl
@[go_sem] theorem fo_85_2:foff Tryz.prog 85 2=some 2:=by kernel_rfl
@[go_sem] theorem fo_85_3:foff Tryz.prog 85 3=some 3:=by kernel_rfl
@[go_sem] theorem tc_83:tcell Tryz.prog 83=some none:=by kernel_rfl
attribute [go_sem] Tryz.underlying83
@[go_sem] theorem el_83:elts Tryz.prog 83=some (.slice 3):=by kernel_rfl
@[go_sem] theorem tc_123:tcell Tryz.prog 123=some (some 3):=by kernel_rfl
attribute [go_sem] Tryz.underlying123
@[go_sem] theorem ts_75:tsize Tryz.prog 75=some 5:=by kernel_rfl
@[go_sem] theorem ac_85:acells Tryz.prog 85=some ([.slice none 0 0,.bool false,.slice none 0 0,.slice none 0 0],4):=by kernel_rfl
@[go_sem] theorem fo_75_1:foff Tryz.prog 75 1=some 1:=by kernel_rfl
@[go_sem] theorem bd_85 {ps:List (Nat × Value)}:ibuild Tryz.prog 85 ps=blt [(0,1),(1,1),(2,1),(3,1)] [.slice none 0 0,.bool false,.slice none 0 0,.slice none 0 0] ps:=ibuild_of (by kernel_rfl)
@[go_sem] theorem fo_75_3:foff Tryz.prog 75 3=some 3:=by kernel_rfl
@[go_sem] theorem tc_73:tcell Tryz.prog 73=some none:=by kernel_rfl
attribute [go_sem] Tryz.underlying73
@[go_sem] theorem el_73:elts Tryz.prog 73=some (.slice 3):=by kernel_rfl
@[go_sem] theorem tc_132:tcell Tryz.prog 132=some (some 3):=by kernel_rfl
@[go_sem] theorem ac_132:acells Tryz.prog 132=some ([.slice none 0 0,.bool false,.slice none 0 0],3):=by kernel_rfl
@[go_sem] theorem ts_132:tsize Tryz.prog 132=some 3:=by kernel_rfl
@[go_sem] theorem bs_83_1 {sz:Nat} {ps:Array (Nat × Operand)} {ρ:Operand→Value}:iop0 Tryz.prog sz (.buildSlice 83 1 ps) ρ=bsl sz 1 3 [.bool false,.string ByteArray.empty,.string ByteArray.empty] (ps.toList.map fun p=>(p.1,ρ p.2)):=iop0_buildSlice_of (by kernel_rfl)
@[go_sem] theorem ap_83_83 {low:Nat} {h:Heap} {s:Value} {a:Option Addr} {k c:Nat}:iappend Tryz.prog low h #[83,83] s (.slice a k c)=iapp low h 3 40 s k (islice h 3 (.slice a k c)):=iappend_slice (by kernel_rfl) Tryz.underlying83
@[go_sem] theorem ts_83:tsize Tryz.prog 83=some 1:=by kernel_rfl
@[go_sem] theorem bs_73_1 {sz:Nat} {ps:Array (Nat × Operand)} {ρ:Operand→Value}:iop0 Tryz.prog sz (.buildSlice 73 1 ps) ρ=bsl sz 1 3 [.slice none 0 0,.bool false,.slice none 0 0] (ps.toList.map fun p=>(p.1,ρ p.2)):=iop0_buildSlice_of (by kernel_rfl)
@[go_sem] theorem ap_73_73 {low:Nat} {h:Heap} {s:Value} {a:Option Addr} {k c:Nat}:iappend Tryz.prog low h #[73,73] s (.slice a k c)=iapp low h 3 56 s k (islice h 3 (.slice a k c)):=iappend_slice (by kernel_rfl) Tryz.underlying73
@[go_sem] theorem bs_72_1 {sz:Nat} {ps:Array (Nat × Operand)} {ρ:Operand→Value}:iop0 Tryz.prog sz (.buildSlice 72 1 ps) ρ=bsl sz 1 1 [.int .i64 0] (ps.toList.map fun p=>(p.1,ρ p.2)):=iop0_buildSlice_of (by kernel_rfl)
@[go_sem] theorem ac_75:acells Tryz.prog 75=some ([.slice none 0 0,.bool false,.slice none 0 0,.slice none 0 0,.bool false],5):=by kernel_rfl
@[go_sem] theorem bs_22_1 {sz:Nat} {ps:Array (Nat × Operand)} {ρ:Operand→Value}:iop0 Tryz.prog sz (.buildSlice 22 1 ps) ρ=bsl sz 1 1 [.int .i32 0] (ps.toList.map fun p=>(p.1,ρ p.2)):=iop0_buildSlice_of (by kernel_rfl)
@[go_sem] theorem ap_22_22 {low:Nat} {h:Heap} {s:Value} {a:Option Addr} {k c:Nat}:iappend Tryz.prog low h #[22,22] s (.slice a k c)=iapp low h 1 4 s k (islice h 1 (.slice a k c)):=iappend_slice (by kernel_rfl) Tryz.underlying22
@[go_sem] theorem ts_77:tsize Tryz.prog 77=some 9:=by kernel_rfl
@[go_sem] theorem tc_77:tcell Tryz.prog 77=some (some 9):=by kernel_rfl
@[go_sem] theorem bs_24_1 {sz:Nat} {ps:Array (Nat × Operand)} {ρ:Operand→Value}:iop0 Tryz.prog sz (.buildSlice 24 1 ps) ρ=bsl sz 1 9 [.int .i64 0,.int .i64 0,.string ByteArray.empty,.int .i32 0,.slice none 0 0,.bool false,.slice none 0 0,.slice none 0 0,.bool false] (ps.toList.map fun p=>(p.1,ρ p.2)):=iop0_buildSlice_of (by kernel_rfl)
@[go_sem] theorem ap_24_24 {low:Nat} {h:Heap} {s:Value} {a:Option Addr} {k c:Nat}:iappend Tryz.prog low h #[24,24] s (.slice a k c)=iapp low h 9 128 s k (islice h 9 (.slice a k c)):=iappend_slice (by kernel_rfl) Tryz.underlying24
@[go_sem] theorem ts_24:tsize Tryz.prog 24=some 1:=by kernel_rfl
@[go_sem] theorem ac_123:acells Tryz.prog 123=some ([.bool false,.string ByteArray.empty,.string ByteArray.empty],3):=by kernel_rfl
@[go_sem] theorem ts_123:tsize Tryz.prog 123=some 3:=by kernel_rfl
@[go_sem] theorem ts_72:tsize Tryz.prog 72=some 1:=by kernel_rfl
@[go_sem] theorem ts_22:tsize Tryz.prog 22=some 1:=by kernel_rfl
attribute [go_sem] Tryz.underlying72
@[go_sem] theorem el_72:elts Tryz.prog 72=some (.slice 1):=by kernel_rfl
@[go_sem] theorem fo_75_4:foff Tryz.prog 75 4=some 4:=by kernel_rfl
@[go_sem] theorem fo_75_0:foff Tryz.prog 75 0=some 0:=by kernel_rfl
@[go_sem] theorem fo_75_2:foff Tryz.prog 75 2=some 2:=by kernel_rfl
@[go_sem] theorem fo_132_0:foff Tryz.prog 132 0=some 0:=by kernel_rfl
@[go_sem] theorem tc_130:tcell Tryz.prog 130=some (some 2):=by kernel_rfl
@[go_sem] theorem fo_130_0:foff Tryz.prog 130 0=some 0:=by kernel_rfl
@[go_sem] theorem tc_128:tcell Tryz.prog 128=some (some 1):=by kernel_rfl
@[go_sem] theorem bd_123 {ps:List (Nat × Value)}:ibuild Tryz.prog 123 ps=blt [(0,1),(1,1),(2,1)] [.bool false,.string ByteArray.empty,.string ByteArray.empty] ps:=ibuild_of (by kernel_rfl)
@[go_sem] theorem bd_132 {ps:List (Nat × Value)}:ibuild Tryz.prog 132 ps=blt [(0,2),(2,1)] [.slice none 0 0,.bool false,.slice none 0 0] ps:=ibuild_of (by kernel_rfl)
@[go_sem] theorem ac_128:acells Tryz.prog 128=some ([.slice none 0 0],1):=by kernel_rfl
@[go_sem] theorem ts_128:tsize Tryz.prog 128=some 1:=by kernel_rfl
@[go_sem] theorem bd_75 {ps:List (Nat × Value)}:ibuild Tryz.prog 75 ps=blt [(0,1),(1,1),(2,1),(3,1),(4,1)] [.slice none 0 0,.bool false,.slice none 0 0,.slice none 0 0,.bool false] ps:=ibuild_of (by kernel_rfl)
@[go_sem] theorem bs_22_22 {sz:Nat} {ps:Array (Nat × Operand)} {ρ:Operand→Value}:iop0 Tryz.prog sz (.buildSlice 22 22 ps) ρ=bsl sz 22 1 [.int .i32 0,.int .i32 0,.int .i32 0,.int .i32 0,.int .i32 0,.int .i32 0,.int .i32 0,.int .i32 0,.int .i32 0,.int .i32 0,.int .i32 0,.int .i32 0,.int .i32 0,.int .i32 0,.int .i32 0,.int .i32 0,.int .i32 0,.int .i32 0,.int .i32 0,.int .i32 0,.int .i32 0,.int .i32 0] (ps.toList.map fun p=>(p.1,ρ p.2)):=iop0_buildSlice_of (by kernel_rfl)
@[go_sem] theorem bs_22_17 {sz:Nat} {ps:Array (Nat × Operand)} {ρ:Operand→Value}:iop0 Tryz.prog sz (.buildSlice 22 17 ps) ρ=bsl sz 17 1 [.int .i32 0,.int .i32 0,.int .i32 0,.int .i32 0,.int .i32 0,.int .i32 0,.int .i32 0,.int .i32 0,.int .i32 0,.int .i32 0,.int .i32 0,.int .i32 0,.int .i32 0,.int .i32 0,.int .i32 0,.int .i32 0,.int .i32 0] (ps.toList.map fun p=>(p.1,ρ p.2)):=iop0_buildSlice_of (by kernel_rfl)
@[go_sem] theorem bs_22_4 {sz:Nat} {ps:Array (Nat × Operand)} {ρ:Operand→Value}:iop0 Tryz.prog sz (.buildSlice 22 4 ps) ρ=bsl sz 4 1 [.int .i32 0,.int .i32 0,.int .i32 0,.int .i32 0] (ps.toList.map fun p=>(p.1,ρ p.2)):=iop0_buildSlice_of (by kernel_rfl)
@[go_sem] theorem bs_22_15 {sz:Nat} {ps:Array (Nat × Operand)} {ρ:Operand→Value}:iop0 Tryz.prog sz (.buildSlice 22 15 ps) ρ=bsl sz 15 1 [.int .i32 0,.int .i32 0,.int .i32 0,.int .i32 0,.int .i32 0,.int .i32 0,.int .i32 0,.int .i32 0,.int .i32 0,.int .i32 0,.int .i32 0,.int .i32 0,.int .i32 0,.int .i32 0,.int .i32 0] (ps.toList.map fun p=>(p.1,ρ p.2)):=iop0_buildSlice_of (by kernel_rfl)
@[go_sem] theorem bs_22_24 {sz:Nat} {ps:Array (Nat × Operand)} {ρ:Operand→Value}:iop0 Tryz.prog sz (.buildSlice 22 24 ps) ρ=bsl sz 24 1 [.int .i32 0,.int .i32 0,.int .i32 0,.int .i32 0,.int .i32 0,.int .i32 0,.int .i32 0,.int .i32 0,.int .i32 0,.int .i32 0,.int .i32 0,.int .i32 0,.int .i32 0,.int .i32 0,.int .i32 0,.int .i32 0,.int .i32 0,.int .i32 0,.int .i32 0,.int .i32 0,.int .i32 0,.int .i32 0,.int .i32 0,.int .i32 0] (ps.toList.map fun p=>(p.1,ρ p.2)):=iop0_buildSlice_of (by kernel_rfl)
attribute [go_sem] Tryz.underlying21
attribute [go_sem] Tryz.underlying3
@[go_sem] theorem bs_72_0 {sz:Nat} {ps:Array (Nat × Operand)} {ρ:Operand→Value}:iop0 Tryz.prog sz (.buildSlice 72 0 ps) ρ=bsl sz 0 1 [] (ps.toList.map fun p=>(p.1,ρ p.2)):=iop0_buildSlice_of (by kernel_rfl)
@[go_sem] theorem ap_72_72 {low:Nat} {h:Heap} {s:Value} {a:Option Addr} {k c:Nat}:iappend Tryz.prog low h #[72,72] s (.slice a k c)=iapp low h 1 8 s k (islice h 1 (.slice a k c)):=iappend_slice (by kernel_rfl) Tryz.underlying72
@[go_sem] theorem bs_22_0 {sz:Nat} {ps:Array (Nat × Operand)} {ρ:Operand→Value}:iop0 Tryz.prog sz (.buildSlice 22 0 ps) ρ=bsl sz 0 1 [] (ps.toList.map fun p=>(p.1,ρ p.2)):=iop0_buildSlice_of (by kernel_rfl)
@[go_sem] theorem ts_130:tsize Tryz.prog 130=some 2:=by kernel_rfl
@[go_sem] theorem fo_130_1:foff Tryz.prog 130 1=some 1:=by kernel_rfl
@[go_sem] theorem fo_128_0:foff Tryz.prog 128 0=some 0:=by kernel_rfl
@[go_sem] theorem tc_126:tcell Tryz.prog 126=some none:=by kernel_rfl
attribute [go_sem] Tryz.underlying126
attribute [go_sem] Tryz.underlying162
attribute [go_sem] Tryz.underlying5
@[go_sem] theorem bs_107_1 {sz:Nat} {ps:Array (Nat × Operand)} {ρ:Operand→Value}:iop0 Tryz.prog sz (.buildSlice 107 1 ps) ρ=bsl sz 1 1 [.int .u8 0] (ps.toList.map fun p=>(p.1,ρ p.2)):=iop0_buildSlice_of (by kernel_rfl)
@[go_sem] theorem ap_107_107 {low:Nat} {h:Heap} {s:Value} {a:Option Addr} {k c:Nat}:iappend Tryz.prog low h #[107,107] s (.slice a k c)=iapp low h 1 1 s k (islice h 1 (.slice a k c)):=iappend_slice (by kernel_rfl) Tryz.underlying107
attribute [go_sem] Tryz.underlying107
@[go_sem] theorem el_107:elts Tryz.prog 107=some (.slice 1):=by kernel_rfl
@[go_sem] theorem tc_5:tcell Tryz.prog 5=some none:=by kernel_rfl
@[go_sem] theorem ts_5:tsize Tryz.prog 5=some 1:=by kernel_rfl
@[go_sem] theorem cv_107_9 {h:Heap} {a:Option Addr} {n c:Nat}:iconvert Tryz.prog h 107 9 (.slice a n c)=icvs (some .u8) (islice h 1 (.slice a n c)) h:=iconvert_slice (by kernel_rfl) Tryz.underlying9
@[go_sem] theorem fo_132_1:foff Tryz.prog 132 1=some 2:=by kernel_rfl
@[go_sem] theorem el_9:elts Tryz.prog 9=some .text:=by kernel_rfl
@[go_sem] theorem cv_9_107 {h:Heap} {s:List UInt8}:iconvert Tryz.prog h 9 107 (.string (text s))=icvt (some .u8) s h:=iconvert_text Tryz.underlying9 (by kernel_rfl)
@[go_sem] theorem bd_128 {ps:List (Nat × Value)}:ibuild Tryz.prog 128 ps=blt [(0,1)] [.slice none 0 0] ps:=ibuild_of (by kernel_rfl)
attribute [go_sem] Tryz.underlying164
@[go_sem] theorem ac_130:acells Tryz.prog 130=some ([.slice none 0 0,.bool false],2):=by kernel_rfl
@[go_sem] theorem bd_130 {ps:List (Nat × Value)}:ibuild Tryz.prog 130 ps=blt [(0,1),(1,1)] [.slice none 0 0,.bool false] ps:=ibuild_of (by kernel_rfl)
@[go_sem] theorem bs_73_0 {sz:Nat} {ps:Array (Nat × Operand)} {ρ:Operand→Value}:iop0 Tryz.prog sz (.buildSlice 73 0 ps) ρ=bsl sz 0 3 [] (ps.toList.map fun p=>(p.1,ρ p.2)):=iop0_buildSlice_of (by kernel_rfl)
@[go_sem] theorem ts_181:tsize Tryz.prog 181=some 2:=by kernel_rfl
@[go_sem] theorem fo_181_0:foff Tryz.prog 181 0=some 0:=by kernel_rfl
@[go_sem] theorem fo_181_1:foff Tryz.prog 181 1=some 1:=by kernel_rfl
@[go_sem] theorem ac_181:acells Tryz.prog 181=some ([.bool false,.string ByteArray.empty],2):=by kernel_rfl
@[go_sem] theorem bd_181 {ps:List (Nat × Value)}:ibuild Tryz.prog 181 ps=blt [(0,1),(1,1)] [.bool false,.string ByteArray.empty] ps:=ibuild_of (by kernel_rfl)
@[go_sem] theorem tc_181:tcell Tryz.prog 181=some (some 2):=by kernel_rfl
@[go_sem] theorem mk_126 {sz:Nat} {k k':IntKind} {l c:Int}:imake Tryz.prog sz 126 (.int k l) (.int k' c)=imk sz 1 4 [.int .u32 0] l c:=imake_of (by kernel_rfl)
@[go_sem] theorem el_126:elts Tryz.prog 126=some (.slice 1):=by kernel_rfl
@[go_sem] theorem tc_162:tcell Tryz.prog 162=some none:=by kernel_rfl
@[go_sem] theorem ts_162:tsize Tryz.prog 162=some 1:=by kernel_rfl
@[go_sem] theorem bs_126_2 {sz:Nat} {ps:Array (Nat × Operand)} {ρ:Operand→Value}:iop0 Tryz.prog sz (.buildSlice 126 2 ps) ρ=bsl sz 2 1 [.int .u32 0,.int .u32 0] (ps.toList.map fun p=>(p.1,ρ p.2)):=iop0_buildSlice_of (by kernel_rfl)
@[go_sem] theorem bs_218_1 {sz:Nat} {ps:Array (Nat × Operand)} {ρ:Operand→Value}:iop0 Tryz.prog sz (.buildSlice 218 1 ps) ρ=bsl sz 1 2 [.slice none 0 0,.bool false] (ps.toList.map fun p=>(p.1,ρ p.2)):=iop0_buildSlice_of (by kernel_rfl)
attribute [go_sem] Tryz.underlying218
@[go_sem] theorem el_218:elts Tryz.prog 218=some (.slice 2):=by kernel_rfl
@[go_sem] theorem fo_123_0:foff Tryz.prog 123 0=some 0:=by kernel_rfl
@[go_sem] theorem fo_123_1:foff Tryz.prog 123 1=some 1:=by kernel_rfl
@[go_sem] theorem fo_123_2:foff Tryz.prog 123 2=some 2:=by kernel_rfl
@[go_sem] theorem mk_107 {sz:Nat} {k k':IntKind} {l c:Int}:imake Tryz.prog sz 107 (.int k l) (.int k' c)=imk sz 1 1 [.int .u8 0] l c:=imake_of (by kernel_rfl)
@[go_sem] theorem mk_72 {sz:Nat} {k k':IntKind} {l c:Int}:imake Tryz.prog sz 72 (.int k l) (.int k' c)=imk sz 1 8 [.int .i64 0] l c:=imake_of (by kernel_rfl)
@[go_sem] theorem fp_128_0:fpart Tryz.prog 128 0=some (false,0,1):=by kernel_rfl
attribute [go_sem] Tryz.underlying136
end Go.Proofs.YtjlaenglmdpboaaGreat.Hd
namespace Go.Proofs.YtjlaenglmdpboaaGreat.N1
open Go Go.Im Go.Im.Limbs Go.Proofs Go.RowKit Hd
set_option maxRecDepth 100000
theorem trim_run (ds:List Nat) (h:Heap) {a:Option Addr} {n c:Nat} (s:Sl h 1 a n c (lv ds)) (hd:Small ds) (hn:n≤1099511627776):Runs K 148 #[.slice a n c] h fun v w=>NatV w v (val ds):=by
 have hlen:ds.length=n:=by have:=s.length;rw [lv_length] at this;omega
 refine Runs.of Kok (Does.intro rfl (by decide +kernel) Tryz.func148 rfl ?_)
 simp +decide only [go_sem,WR,WS]
 have hx:Ext h (h.push (.cells [.slice none 0 0] 1)):=(Ext.refl h).push _
 have hz:(h.push (.cells [.slice none 0 0] 1)).get h.size= .cells [.slice none 0 0] 1:=by rw [Heap.get_push,if_pos rfl]
 have hs1:(h.push (.cells [.slice none 0 0] 1)).size=h.size+1:=rfl
 generalize h.push (.cells [.slice none 0 0] 1)=w0 at hx hz hs1
 refine W_loop (α:=Nat × Option Addr × Nat) (fun k e w=>k.1≤n∧e.size=22∧w=w0∧e.get 2= .pointer (some ⟨h.size,0,none⟩)∧val (ds.take k.1)=val ds∧e.get 0= .slice k.2.1 k.1 k.2.2∧Sl h 1 k.2.1 k.1 k.2.2 (lv (ds.take k.1))) (fun k=>k.1) (n,a,c) ?_ ?_
 ·refine ⟨Nat.le_refl _,by simp +decide only [go_sem],rfl,by simp +decide only [go_sem],?_,by simp +decide only [go_sem],?_⟩
  ·rw [List.take_of_length_le (by omega)]
  ·rw [List.take_of_length_le (by omega)];exact s
 ·rintro ⟨k,a',c'⟩ e w ⟨hk,hsz,rfl,g2,hv,g0,s'⟩ next
  simp only at hk hv g0 s'
  have fin:Top (ds.take k)→∀ x,NatV (w.set h.size x) (.agg #[.slice a' k c']) (val ds):=fun ht x=>by
   rw [← hv]
   exact NatV.mk (s'.ext (hx.set (Nat.le_refl _) x)) (hd.take k) ht
  by_cases h0:k=0
  ·subst h0
   have f1:=fin (by simp [Top])
   simp +decide only [go_sem,WR,WS,hsz,g0,g2,hz]
   exact f1 _
  ·have i1:(0:Int) < (k:Int):=by omega
   have i2:IntKind.i64.wrap ((k:Int) - 1)=(k:Int) - 1:=wrap_i64 (by omega) (by omega)
   have i3:(0:Int)≤(k:Int) - 1:=by omega
   have i4:(k:Int) - 1 < (k:Int):=by omega
   have i5:((k:Int) - 1).toNat=k - 1:=by omega
   obtain ⟨d,hd1⟩:∃ d,(ds.take k)[k - 1]? =some d:=⟨_,List.getElem?_eq_getElem (by simp;omega)⟩
   obtain ⟨b,o,cs,rfl,hb,hg,hc⟩:=(s'.ext hx).one (lv_get hd1)
   have hd2:ds[k - 1]? =some d:=by
    rw [List.getElem?_take] at hd1
    split at hd1
    ·exact hd1
    ·cases hd1
   have hk1:k - 1+1=k:=by omega
   by_cases hd0:(d:Int)=0
   ·obtain ⟨a2,c2,hr,s2⟩:=s'.cut hx (by omega) (lo:=none) (hi:=some (.int .i64 ((k:Int) - 1))) (l:=0) (u:=k - 1) rfl (by simp only [boundOf,i3,if_true,i5]) (Nat.zero_le _) (by omega)
    simp +decide only [go_sem,WR,WS,hsz,g0,g2,i1,i2,i3,i4,i5,Nat.mul_one,hg,hc,hd0,hr]
    have e0:d=0:=by omega
    subst e0
    refine next (k - 1,a2,c2) _ _ ⟨by simp only;omega,by simp +decide only [go_sem,hsz],rfl,by simp +decide only [go_sem,hsz,g2],?_,by simp +decide only [go_sem,hsz,Nat.sub_zero],?_⟩ (by simp only;omega)
    ·rw [← hv]
     simp only
     have:=trim_step (l:=ds) (k:=k - 1) (by omega) hd2
     rw [hk1] at this
     exact this.symm
    ·simpa [lv_take,List.take_take,Nat.min_eq_left (show k - 1≤k by omega)] using s2
   ·have f1:=fin (by
     unfold Top
     rw [List.getLast?_eq_getElem?,List.length_take,Nat.min_eq_left (by omega),hd1]
     intro hh
     cases hh
     exact hd0 rfl)
    simp +decide only [go_sem,WR,WS,hsz,g0,g2,i1,i2,i3,i4,i5,Nat.mul_one,hg,hc,hd0,hz]
    exact f1 _
theorem add32_run (x y c:Nat) (h:Heap) (hx:x < 4294967296) (hy:y < 4294967296) (hc:c≤1):Runs K 150 #[.int .u32 (x:Int),.int .u32 (y:Int),.int .u32 (c:Int)] h fun v _ =>
  v= .tuple #[.int .u32 (((x+y+c)%4294967296:Nat):Int),.int .u32 (((x+y+c) / 4294967296:Nat):Int)]:=by
 refine Runs.of Kok (Does.intro rfl (by decide +kernel) Tryz.func150 rfl ?_)
 have q:(x+y+c) / 4294967296%4294967296=(x+y+c) / 4294967296:=by omega
 simp +decide only [go_sem,WR,WS,w64 (show x < 18446744073709551616 by omega),w64 (show y < 18446744073709551616 by omega),w64 (show c < 18446744073709551616 by omega),wadd (show x+y < 18446744073709551616 by omega),wadd (show x+y+c < 18446744073709551616 by omega),w32,ishr32,q]
theorem sub32_run (x y c:Nat) (h:Heap) (hx:x < 4294967296) (hy:y < 4294967296) (hc:c≤1):Runs K 179 #[.int .u32 (x:Int),.int .u32 (y:Int),.int .u32 (c:Int)] h fun v _ =>
  v= .tuple #[.int .u32 (((x+8589934592 - y - c)%4294967296:Nat):Int),.int .u32 ((if x < y+c then 1 else 0:Nat):Int)]:=by
 refine Runs.of Kok (Does.intro rfl (by decide +kernel) Tryz.func179 rfl ?_)
 have q:((x+4294967296 - y)%4294967296+4294967296 - c)%4294967296=(x+8589934592 - y - c)%4294967296:=by omega
 have l1:4294967295 ^^^ x < 4294967296:=Nat.xor_lt_two_pow (n:=32) (by omega) hx
 have l2:x ^^^ y < 4294967296:=Nat.xor_lt_two_pow (n:=32) hx hy
 have l3:4294967295 ^^^ (x ^^^ y) < 4294967296:=Nat.xor_lt_two_pow (n:=32) (by omega) l2
 have l4:(x+8589934592 - y - c)%4294967296 < 4294967296:=Nat.mod_lt _ (by omega)
 have l5:((4294967295 ^^^ x) &&& y) < 4294967296:=Nat.lt_of_le_of_lt Nat.and_le_right hy
 have l6:((4294967295 ^^^ (x ^^^ y)) &&& ((x+8589934592 - y - c)%4294967296)) < 4294967296:=Nat.lt_of_le_of_lt Nat.and_le_right l4
 simp +decide only [go_sem,WR,WS,wsub32 (show y≤4294967296 by omega),wsub32 (show c≤4294967296 by omega),q,ixor1 hx,iand32 l1 hy,ixor32 hx hy,ixor1 l2,iand32 l3 l4,ior32 l5 l6,ishr31,borrow32 hx hy hc]
theorem of_run (m:Nat) (h:Heap) (hm:m < 18446744073709551616):Runs K 132 #[.int .u64 (m:Int)] h fun v w=>NatV w v m:=by
 refine Runs.of Kok (Does.intro rfl (by decide +kernel) Tryz.func132 rfl ?_)
 obtain ⟨w0,e0,hx,hs,z0,z1⟩:=lay2 h (.cells [.slice none 0 0] 1) (.cells [.int .u32 ((m%4294967296:Nat):Int),.int .u32 ((m / 4294967296:Nat):Int)] 1)
 have q:m / 4294967296%4294967296=m / 4294967296:=by omega
 simp +decide only [go_sem,WR,WS,w32,ishr32,q,e0]
 have sm:Small [m%4294967296,m / 4294967296]:=Small.cons (by rw [B_eq];omega) (Small.cons (by rw [B_eq];omega) Small.nil)
 refine W_call Kok (by omega) (trim_run [m%4294967296,m / 4294967296] w0 (a:=some ⟨h.size+1,0,none⟩) (n:=2) (c:=2) (.inr (.inr ⟨h.size+1,0,_,rfl,by omega,by omega,by rw [z1];rfl,by simp,rfl,.inl ⟨by omega,by simp [big]⟩⟩)) sm (by omega)) fun v w1 hx1 hv=> ?_
 have e1:val [m%4294967296,m / 4294967296]=m:=by
  simp only [val_cons,val_nil,B_eq]
  omega
 rw [e1] at hv
 obtain ⟨a,c,rfl,s⟩:=hv.open
 have z2:w1.get h.size=_:=(hx1.2 _ (by omega)).trans z0
 have hz1:=hx1.1
 obtain ⟨w2,e2,hx2,hs2,z3,z4⟩:=put1 (hx.trans hx1) (Nat.le_refl h.size) (.cells [.slice a (dig m).length c] 1)
 simp +decide only [go_sem,WR,WS,z2,e2,z3]
 exact hv.over z2 (by rfl) (by rfl) hs2 z3 z4
theorem zero_run (m:Nat) (h:Heap) {v:Value} (hv:NatV h v m):Runs K 130 #[v] h fun x _=>x= .bool (decide (m=0)):=by
 obtain ⟨a,c,rfl,s⟩:=hv.open
 refine Runs.of Kok (Does.intro rfl (by decide +kernel) Tryz.func130 rfl ?_)
 simp +decide only [go_sem,WR,WS]
 congr 1
 rw [decide_eq_decide]
 rw [← dig_nil,← List.length_eq_zero_iff]
 omega
theorem limbs_run (m:Nat) (h:Heap) {v:Value} (hv:NatV h v m):Runs K 160 #[v] h fun x _=>x= .int .i64 (((dig m).length:Nat):Int):=by
 obtain ⟨a,c,rfl,s⟩:=hv.open
 refine Runs.of Kok (Does.intro rfl (by decide +kernel) Tryz.func160 rfl ?_)
 simp +decide only [go_sem,WR,WS]
theorem one_run (m:Nat) (h:Heap) {v:Value} (hv:NatV h v m):Runs K 159 #[v] h fun x _=>x= .bool (decide (m=1)):=by
 obtain ⟨a,c,rfl,s⟩:=hv.open
 refine Runs.of Kok (Does.intro rfl (by decide +kernel) Tryz.func159 rfl ?_)
 by_cases h1:(((dig m).length:Nat):Int)=1
 ·obtain ⟨d,hd⟩:∃ d,dig m=[d]:=List.length_eq_one_iff.1 (by omega)
  have hm:m=d:=by rw [← val_dig m,hd];simp [val_cons,val_nil]
  subst hm
  obtain ⟨b,o,cs,rfl,hb,hg,hc⟩:=s.one (i:=0) (x:= .int .u32 (m:Int)) (by rw [hd];rfl)
  have hne:¬ b=h.size:=by omega
  rw [hd]
  simp +decide only [go_sem,WR,WS,List.length_cons,List.length_nil,Nat.zero_add,hne,hg,Nat.mul_one,Nat.add_zero]
  rw [Nat.add_zero] at hc
  simp +decide only [go_sem,WR,WS,hc]
  congr 1
  rw [decide_eq_decide]
  omega
 ·simp +decide only [go_sem,WR,WS,h1]
  have:¬ m=1:=by
   rintro rfl
   rw [dig_one (by omega) (by rw [B_eq];omega)] at h1
   exact h1 rfl
  simp [this]
theorem uint_run (m:Nat) (h:Heap) {v:Value} (hv:NatV h v m):Runs K 167 #[v] h fun x _ =>
  x=if m < 18446744073709551616 then .tuple #[.int .u64 (m:Int),.bool true] else .tuple #[.int .u64 0,.bool false]:=by
 obtain ⟨a,c,rfl,s⟩:=hv.open
 have hle:(dig m).length≤2↔m < 18446744073709551616:=by
  rw [dig_length]
  rfl
 refine Runs.of Kok (Does.intro rfl (by decide +kernel) Tryz.func167 rfl ?_)
 by_cases h0:(((dig m).length:Nat):Int)=0
 ·have hm:m=0:=dig_nil.1 (List.length_eq_zero_iff.1 (by omega))
  subst hm
  simp +decide only [go_sem,WR,WS,dig_zero,List.length_nil]
  rfl
 by_cases h1:(((dig m).length:Nat):Int)=1
 ·obtain ⟨d,hd⟩:∃ d,dig m=[d]:=List.length_eq_one_iff.1 (by omega)
  have hm:m=d:=by rw [← val_dig m,hd];simp [val_cons,val_nil]
  subst hm
  have hB:m < 4294967296:=dig_small m m (by rw [hd];simp)
  obtain ⟨b,o,cs,rfl,hb,hg,hc⟩:=s.one (i:=0) (x:= .int .u32 (m:Int)) (by rw [hd];rfl)
  have hne:¬ b=h.size:=by omega
  rw [Nat.add_zero] at hc
  have hlt:m < 18446744073709551616:=by omega
  rw [hd]
  simp +decide only [go_sem,WR,WS,List.length_cons,List.length_nil,Nat.zero_add,hne,hg,Nat.mul_one,Nat.add_zero,hc,w64 hlt,hlt]
 by_cases h2:(((dig m).length:Nat):Int)=2
 ·obtain ⟨d,e,hd⟩:∃ d e,dig m=[d,e]:=by
   match hq:dig m,h2 with
   | [d,e],_=>exact ⟨d,e,rfl⟩
  have hm:m=d+4294967296*e:=by rw [← val_dig m,hd];simp [val_cons,val_nil,B_eq]
  have hd1:d < 4294967296:=dig_small m d (by rw [hd];simp)
  have he1:e < 4294967296:=dig_small m e (by rw [hd];simp)
  obtain ⟨b,o,cs,rfl,hb,hg,hc⟩:=s.one (i:=0) (x:= .int .u32 (d:Int)) (by rw [hd];rfl)
  obtain ⟨b',o',cs',hbb,hb',hg',hc'⟩:=s.one (i:=1) (x:= .int .u32 (e:Int)) (by rw [hd];rfl)
  cases hbb
  rw [hg] at hg'
  cases hg'
  have hne:¬ b=h.size:=by omega
  rw [Nat.add_zero] at hc
  have hlt:m < 18446744073709551616:=by omega
  have q1:e*4294967296%18446744073709551616=e*4294967296:=by omega
  have q2:(d ||| e*4294967296)=m:=by
   rw [Nat.or_comm,or_add hd1]
   omega
  rw [hd]
  simp +decide only [go_sem,WR,WS,List.length_cons,List.length_nil,Nat.zero_add,hne,hg,Nat.mul_one,Nat.add_zero,hc,hc',w64 (show d < 18446744073709551616 by omega),w64 (show e < 18446744073709551616 by omega),ishl32,q1,ior64 (show d < 18446744073709551616 by omega) (show e*4294967296 < 18446744073709551616 by omega),q2,hlt]
 ·have hlt:¬ m < 18446744073709551616:=by
   rw [← hle]
   omega
  simp +decide only [go_sem,WR,WS,h0,h1,h2,hlt]
theorem cmp_run (x y:Nat) (h:Heap) {v u:Value} (hv:NatV h v x) (hu:NatV h u y) (hl:(dig x).length≤1099511627776):Runs K 168 #[v,u] h fun r _=>r= .int .i64 (if x < y then -1 else if x=y then 0 else 1):=by
 obtain ⟨a,c,rfl,s⟩:=hv.open
 obtain ⟨b,d,rfl,t⟩:=hu.open
 refine Runs.of Kok (Does.intro rfl (by decide +kernel) Tryz.func168 rfl ?_)
 obtain ⟨w0,e0,hx,hs,z0,z1⟩:=lay2 h (.cells [.slice a (dig x).length c] 1) (.cells [.slice b (dig y).length d] 1)
 by_cases h1:(((dig x).length:Nat):Int)=(((dig y).length:Nat):Int)
 case neg =>
  by_cases h2:(((dig x).length:Nat):Int) < (((dig y).length:Nat):Int)
  ·have:x < y:=lt_of_length (by omega)
   simp +decide only [go_sem,WR,WS,e0,z0,z1,h1,h2,this]
  ·have q:y < x:=lt_of_length (by omega)
   have q1:¬ x < y:=by omega
   have q2:¬ x=y:=by omega
   simp +decide only [go_sem,WR,WS,e0,z0,z1,h1,h2,q1,q2]
 have hlen:(dig x).length=(dig y).length:=by omega
 have i2:IntKind.i64.wrap ((((dig x).length:Nat):Int) - 1)=(((dig x).length:Nat):Int) - 1:=wrap_i64 (by omega) (by omega)
 have s0:=s.ext hx
 have t0:=t.ext hx
 rw [← hlen] at t0
 have h1':(((dig y).length:Nat):Int)=(((dig x).length:Nat):Int):=by omega
 rw [← hlen] at z1 e0 ⊢
 simp +decide only [go_sem,WR,WS,e0,z0,z1,i2]
 clear e0
 refine W_loop (α:=Nat) (fun k e w=>k≤(dig x).length∧e.size=50∧w=w0∧e.get 2= .pointer (some ⟨h.size,0,none⟩)∧e.get 3= .pointer (some ⟨h.size+1,0,none⟩)∧e.get 5= .int .i64 ((k:Int) - 1)∧(dig x).drop k=(dig y).drop k) (fun k=>k) (dig x).length ?_ ?_
 ·refine ⟨Nat.le_refl _,by simp +decide only [go_sem],rfl,by simp +decide only [go_sem],by simp +decide only [go_sem],by simp +decide only [go_sem],?_⟩
  rw [List.drop_of_length_le (Nat.le_refl _),List.drop_of_length_le (by omega)]
 ·rintro k e w ⟨hk,hsz,rfl,g2,g3,g5,hd⟩ next
  by_cases hk0:(0:Int)≤(k:Int) - 1
  case neg =>
   have:k=0:=by omega
   subst this
   have q:x=y:=dig_inj (by simpa using hd)
   have q1:¬ x < y:=by omega
   simp +decide only [go_sem,WR,WS,hsz,g2,g3,g5,hk0,q,Nat.lt_irrefl]
  have i4:(k:Int) - 1 < (((dig x).length:Nat):Int):=by omega
  have i5:((k:Int) - 1).toNat=k - 1:=by omega
  have i6:IntKind.i64.wrap ((k:Int) - 1 - 1)=((k - 1:Nat):Int) - 1:=by rw [wrap_i64 (by omega) (by omega)];omega
  obtain ⟨p,hp⟩:∃ p,(dig x)[k - 1]? =some p:=⟨_,List.getElem?_eq_getElem (by omega)⟩
  obtain ⟨q,hq⟩:∃ q,(dig y)[k - 1]? =some q:=⟨_,List.getElem?_eq_getElem (by omega)⟩
  obtain ⟨b1,o1,cs1,rfl,hb1,hg1,hc1⟩:=s0.one (lv_get hp)
  obtain ⟨b2,o2,cs2,rfl,hb2,hg2,hc2⟩:=t0.one (lv_get hq)
  have hkk:k - 1+1=k:=by omega
  by_cases hpq:(p:Int)=(q:Int)
  ·have hpq':p=q:=by omega
   subst hpq'
   simp +decide only [go_sem,WR,WS,hsz,g2,g3,g5,z0,z1,hk0,i4,i5,Nat.mul_one,hg1,hg2,hc1,hc2,i6]
   refine next (k - 1) _ _ ⟨by omega,by simp +decide only [go_sem,hsz],rfl,by simp +decide only [go_sem,hsz,g2],by simp +decide only [go_sem,hsz,g3],by simp +decide only [go_sem,hsz],?_⟩ (by omega)
   rw [List.drop_eq_getElem_cons (show k - 1 < (dig x).length by omega),List.drop_eq_getElem_cons (show k - 1 < (dig y).length by omega),hkk,hd,(List.getElem?_eq_some_iff.1 hp).2,(List.getElem?_eq_some_iff.1 hq).2]
  ·by_cases hlt:(p:Int) < (q:Int)
   ·have hxy:x < y:=by
     have:=lt_at (dig_small x) hp hq (by rw [hkk];exact hd) (by omega)
     rwa [val_dig,val_dig] at this
    simp +decide only [go_sem,WR,WS,hsz,g2,g3,g5,z0,z1,hk0,i4,i5,Nat.mul_one,hg1,hg2,hc1,hc2,hpq,hlt,hxy]
   ·have hxy:y < x:=by
     have:=lt_at (dig_small y) hq hp (by rw [hkk];exact hd.symm) (by omega)
     rwa [val_dig,val_dig] at this
    have q1:¬ x < y:=by omega
    have q2:¬ x=y:=by omega
    simp +decide only [go_sem,WR,WS,hsz,g2,g3,g5,z0,z1,hk0,i4,i5,Nat.mul_one,hg1,hg2,hc1,hc2,hpq,hlt,q1,q2]
end Go.Proofs.YtjlaenglmdpboaaGreat.N1
