/- Proved here: parts of the way to BEditBack (BHd BN1); no condition beyond those that each theorem names. -/
import Derived.Test.YtachkofbmodnnaaGreatG4
import Derived.Test.YtachkofbmodnnaaGreatProg
import Derived.Test.YtachkofbmodnnaaGreatG5
import Derived.Test.YtachkofbmodnnaaGreatG6
import Derived.KernelRfl
set_option linter.unusedSimpArgs false
set_option linter.unusedVariables false
namespace Go.Proofs.YtachkofbmodnnaaGreat.Hd
open Go Go.Im Go.Proofs Go.RowKit
set_option maxRecDepth 100000
attribute [go_sem] Tryz.f6 Tryz.f7 Tryz.f9 Tryz.f10 Tryz.f11 Tryz.f12 Tryz.f13 Tryz.f14 Tryz.f16 Tryz.f19 Tryz.f20 Tryz.f21 Tryz.f22 Tryz.f23 Tryz.f24 Tryz.f25 Tryz.f26 Tryz.f27 Tryz.f28 Tryz.f29 Tryz.f30 Tryz.f31 Tryz.f32 Tryz.f33 Tryz.f34 Tryz.f35 Tryz.f36 Tryz.f38 Tryz.f39 Tryz.f40 Tryz.f41 Tryz.f42 Tryz.f43 Tryz.f44 Tryz.f45 Tryz.f46 Tryz.f47 Tryz.f48 Tryz.f49 Tryz.f50 Tryz.f51 Tryz.f52 Tryz.f53 Tryz.f54 Tryz.f55 Tryz.f56 Tryz.f57 Tryz.f58 Tryz.f61 Tryz.f64 Tryz.f65 Tryz.f66 Tryz.f67 Tryz.f68 Tryz.f69 Tryz.f70 Tryz.f71 Tryz.f73 Tryz.f74 Tryz.f75 Tryz.f76 Tryz.f77 Tryz.f78 Tryz.f79 Tryz.f80 Tryz.f84 Tryz.f85 Tryz.f86 Tryz.f87 Tryz.f90 Tryz.f91 Tryz.f92 Tryz.f93 Tryz.f94 Tryz.f95 Tryz.f105 Tryz.f108 Tryz.f109 Tryz.f110 Tryz.f111 Tryz.f112 Tryz.f113 Tryz.f115 Tryz.f116 Tryz.f117 Tryz.f118 Tryz.f119 Tryz.f120 Tryz.f121 Tryz.f122 Tryz.f123 Tryz.f130 Tryz.f131 Tryz.f132 Tryz.f133 Tryz.f135 Tryz.f136 Tryz.f137 Tryz.f138 Tryz.f139 Tryz.f140 Tryz.f141 Tryz.f142 Tryz.f143 Tryz.f144 Tryz.f146 Tryz.f147 Tryz.f148 Tryz.f149 Tryz.f150 Tryz.f151 Tryz.f152 Tryz.f153 Tryz.f154 Tryz.f155 Tryz.f156 Tryz.f157 Tryz.f158 Tryz.f159 Tryz.f160 Tryz.f161 Tryz.f162 Tryz.f163 Tryz.f164 Tryz.f165 Tryz.f166 Tryz.f167 Tryz.f168 Tryz.f169 Tryz.f170 Tryz.f171 Tryz.f172 Tryz.f173 Tryz.f174 Tryz.f175 Tryz.f176 Tryz.f177 Tryz.f178 Tryz.f179 Tryz.f180 Tryz.f181 Tryz.f182 Tryz.f183 Tryz.f184 Tryz.f185 Tryz.f186 Tryz.f187 Tryz.f188 Tryz.f189 Tryz.f190 Tryz.f191 Tryz.f192 Tryz.f193 Tryz.f194 Tryz.f195
noncomputable def K:Cfg:=cfgx Tryz.prog (T:=Tied.free) [6,7,9,10,11,12,13,14,16,19,20,21,22,23,24,25,26,27,28,29,30,31,32,33,34,35,36,38,39,40,41,42,43,44,45,46,47,48,49,50,51,52,53,54,55,56,57,58,61,64,65,66,67,68,69,70,71,73,74,75,76,77,78,79,80,84,85,86,87,90,91,92,93,94,95,105,108,109,110,111,112,113,115,116,117,118,119,120,121,122,123,130,131,132,133,135,136,137,138,139,140,141,142,143,144,146,147,148,149,150,151,152,153,154,155,156,157,158,159,160,161,162,163,164,165,166,167,168,169,170,171,172,173,174,175,176,177,178,179,180,181,182,183,184,185,186,187,188,189,190,191,192,193,194,195] [(19,(3,[43,23])),(19,(5,[12,28,41,23])),(20,(10,[45])),(21,(11,[48])),(22,(12,[50])),(25,(7,[])),(26,(1,[55])),(27,(3,[])),(36,(22,[])),(38,(27,[67])),(40,(7,[])),(42,(1,[])),(43,(1,[])),(74,(6,[])),(77,(6,[])),(137,(14,[151,153])),(139,(1,[])),(140,(1,[])),(148,(2,[158])),(148,(3,[160])),(155,(4,[165])),(156,(1,[165])),(158,(1,[168])),(160,(1,[168])),(165,(3,[174])),(165,(6,[])),(166,(4,[140])),(169,(1,[150])),(176,(7,[])),(181,(9,[]))] [(36,(6,[(5,7)])),(36,(13,[(5,7)])),(36,(15,[(5,10),(8,10),(8,12)])),(78,(4,[(8,12),(8,15)])),(174,(9,[(1,2)])),(176,(4,[(1,2)])),(176,(9,[(1,2)])),(184,(7,[(9,12)]))] [law28.awake] [X1.ZuE,X1.ZvE,X1.Zr5,X7.insX]
attribute [go_sem] Nat.add_eq_left Nat.left_eq_add
@[go_sem] theorem KP:K.P=Tryz.prog:=rfl
@[go_sem] theorem KD {f r:Nat}:K.dy f r=dyAt [(36,(6,[(5,7)])),(36,(13,[(5,7)])),(36,(15,[(5,10),(8,10),(8,12)])),(78,(4,[(8,12),(8,15)])),(174,(9,[(1,2)])),(176,(4,[(1,2)])),(176,(9,[(1,2)])),(184,(7,[(9,12)]))] f r:=rfl
theorem Kok:CfgOK K:=Znr Ye Ye
theorem Zbi (h:Heap):Runs K 8 #[] h fun v _=>v= .bool true:=⟨1,.bool true,h,rfl,Ext.refl h,rfl⟩
attribute [go_sem] Tryz.underlying32
attribute [go_sem] Tryz.underlying35
attribute [go_sem] Tryz.underlying40
@[go_sem] theorem Zxw:elts Tryz.prog 40=some (.slice 1):=by kernel_rfl
@[go_sem] theorem Zxo:Zba Tryz.prog 22=some none:=by kernel_rfl
attribute [go_sem] Tryz.underlying4
attribute [go_sem] Tryz.underlying9
attribute [go_sem] Tryz.underlying22
@[go_sem] theorem ZvB {h:Heap} {s:List UInt8}:ZaF Tryz.prog h 9 22 (.string (text s))=icvt (some .i32) s h:=Zek Tryz.underlying9 Yh
@[go_sem] theorem ZxL:ZbL Tryz.prog 54=some ([.string ByteArray.empty,.string ByteArray.empty,.string ByteArray.empty,.string ByteArray.empty,.slice none 0 0,.slice none 0 0,.slice none 0 0],7):=by kernel_rfl
@[go_sem] theorem Zw6:Zaq Tryz.prog 54=some 7:=by kernel_rfl
attribute [go_sem] Tryz.underlying39
@[go_sem] theorem Zxk:Zba Tryz.prog 54=some (some 7):=by kernel_rfl
@[go_sem] theorem Zxy:elts Tryz.prog 22=some (.slice 1):=by kernel_rfl
@[go_sem] theorem Zxp:Zba Tryz.prog 21=some none:=by kernel_rfl
attribute [go_sem] Tryz.underlying21
attribute [go_sem] Tryz.underlying3
@[go_sem] theorem ZvL {sz:Nat} {ps:Array (Nat × Operand)} {ρ:Operand→Value}:iop0 Tryz.prog sz (.buildSlice 63 1 ps) ρ=bsl sz 1 1 [.int .u8 0] (ps.toList.map fun p=>(p.1,ρ p.2)):=Zad Yh
attribute [go_sem] Tryz.underlying63
attribute [go_sem] Tryz.underlying5
@[go_sem] theorem Zuu {low:Nat} {h:Heap} {s:Value} {a:Option Addr} {k c:Nat}:ZaC Tryz.prog low h #[63,63] s (.slice a k c)=iapp low h 1 1 s k (Zak h 1 (.slice a k c)):=Zas Yh Tryz.underlying63
@[go_sem] theorem Zxv:elts Tryz.prog 63=some (.slice 1):=by kernel_rfl
@[go_sem] theorem ZvC {h:Heap} {a:Option Addr} {n c:Nat}:ZaF Tryz.prog h 63 9 (.slice a n c)=icvs (some .u8) (Zak h 1 (.slice a n c)) h:=Zdq Yh Tryz.underlying9
@[go_sem] theorem el_9:elts Tryz.prog 9=some .text:=by kernel_rfl
@[go_sem] theorem ZxI:ZbL Tryz.prog 84=some ([.string ByteArray.empty,.string ByteArray.empty,.string ByteArray.empty,.string ByteArray.empty,.slice none 0 0,.slice none 0 0,.slice none 0 0],7):=by kernel_rfl
@[go_sem] theorem ZwY:Zaq Tryz.prog 84=some 7:=by kernel_rfl
@[go_sem] theorem Zxd:Zba Tryz.prog 84=some (some 7):=by kernel_rfl
@[go_sem] theorem Zvc:foff Tryz.prog 81 1=some 1:=by kernel_rfl
@[go_sem] theorem tc_3:Zba Tryz.prog 3=some none:=by kernel_rfl
@[go_sem] theorem Zxx:elts Tryz.prog 39=some (.slice 1):=by kernel_rfl
@[go_sem] theorem tc_9:Zba Tryz.prog 9=some none:=by kernel_rfl
@[go_sem] theorem Zvl:foff Tryz.prog 72 1=some 1:=by kernel_rfl
@[go_sem] theorem ZxF {ps:List (Nat × Value)}:Za2 Tryz.prog 54 ps=blt [(0,5),(5,1),(6,1)] [.string ByteArray.empty,.string ByteArray.empty,.string ByteArray.empty,.string ByteArray.empty,.slice none 0 0,.slice none 0 0,.slice none 0 0] ps:=Zax Yh
@[go_sem] theorem ZxM:ZbL Tryz.prog 51=some ([.string ByteArray.empty,.string ByteArray.empty,.string ByteArray.empty,.string ByteArray.empty,.slice none 0 0],5):=by kernel_rfl
@[go_sem] theorem Zw8:Zaq Tryz.prog 51=some 5:=by kernel_rfl
@[go_sem] theorem Zxm:Zba Tryz.prog 51=some (some 5):=by kernel_rfl
@[go_sem] theorem Zvw:foff Tryz.prog 51 0=some 0:=by kernel_rfl
@[go_sem] theorem ZvO {sz:Nat} {ps:Array (Nat × Operand)} {ρ:Operand→Value}:iop0 Tryz.prog sz (.buildSlice 39 1 ps) ρ=bsl sz 1 1 [.string ByteArray.empty] (ps.toList.map fun p=>(p.1,ρ p.2)):=Zad Yh
@[go_sem] theorem Zuw {low:Nat} {h:Heap} {s:Value} {a:Option Addr} {k c:Nat}:ZaC Tryz.prog low h #[39,39] s (.slice a k c)=iapp low h 1 16 s k (Zak h 1 (.slice a k c)):=Zas Yh Tryz.underlying39
@[go_sem] theorem Zvp:foff Tryz.prog 54 2=some 6:=by kernel_rfl
@[go_sem] theorem Zxl:Zba Tryz.prog 52=some none:=by kernel_rfl
@[go_sem] theorem ZwK {ps:List (Nat × Value)}:Za2 Tryz.prog 100 ps=blt [(0,1),(1,1)] [.string ByteArray.empty,.int .i64 0] ps:=Zax Yh
@[go_sem] theorem ZvM {sz:Nat} {ps:Array (Nat × Operand)} {ρ:Operand→Value}:iop0 Tryz.prog sz (.buildSlice 52 1 ps) ρ=bsl sz 1 2 [.string ByteArray.empty,.int .i64 0] (ps.toList.map fun p=>(p.1,ρ p.2)):=Zad Yh
@[go_sem] theorem Zuv {low:Nat} {h:Heap} {s:Value} {a:Option Addr} {k c:Nat}:ZaC Tryz.prog low h #[52,52] s (.slice a k c)=iapp low h 2 24 s k (Zak h 2 (.slice a k c)):=Zas Yh Tryz.underlying52
@[go_sem] theorem Zw7:Zaq Tryz.prog 52=some 1:=by kernel_rfl
@[go_sem] theorem Zvq:foff Tryz.prog 54 1=some 5:=by kernel_rfl
@[go_sem] theorem Zxn:Zba Tryz.prog 39=some none:=by kernel_rfl
@[go_sem] theorem ZvD {h:Heap} {a:Option Addr} {n c:Nat}:ZaF Tryz.prog h 22 9 (.slice a n c)=icvs (some .i32) (Zak h 1 (.slice a n c)) h:=Zdq Yh Tryz.underlying9
@[go_sem] theorem Zw9:Zaq Tryz.prog 39=some 1:=by kernel_rfl
@[go_sem] theorem Zvm:foff Tryz.prog 72 0=some 0:=by kernel_rfl
@[go_sem] theorem Zxi:Zba Tryz.prog 70=some none:=by kernel_rfl
@[go_sem] theorem ZxD {ps:List (Nat × Value)}:Za2 Tryz.prog 72 ps=blt [(0,1),(1,1)] [.slice none 0 0,.int .i64 0] ps:=Zax Yh
@[go_sem] theorem Zw3:Zaq Tryz.prog 72=some 2:=by kernel_rfl
attribute [go_sem] Tryz.underlying70
@[go_sem] theorem Zxr {sz:Nat} {k k':IntKind} {l c:Int}:Zf8 Tryz.prog sz 39 (.int k l) (.int k' c)=imk sz 1 16 [.string ByteArray.empty] l c:=Zfn Yh
@[go_sem] theorem Zxu:elts Tryz.prog 70=some (.slice 2):=by kernel_rfl
@[go_sem] theorem Zxj:Zba Tryz.prog 69=some (some 2):=by kernel_rfl
@[go_sem] theorem ZxK:ZbL Tryz.prog 69=some ([.int .i64 0,.string ByteArray.empty],2):=by kernel_rfl
@[go_sem] theorem Zw5:Zaq Tryz.prog 69=some 2:=by kernel_rfl
@[go_sem] theorem Zvn:foff Tryz.prog 69 1=some 1:=by kernel_rfl
@[go_sem] theorem ts_9:Zaq Tryz.prog 9=some 1:=by kernel_rfl
@[go_sem] theorem tc_5:Zba Tryz.prog 5=some none:=by kernel_rfl
@[go_sem] theorem ts_5:Zaq Tryz.prog 5=some 1:=by kernel_rfl
@[go_sem] theorem ZxG {ps:List (Nat × Value)}:Za2 Tryz.prog 51 ps=blt [(0,1),(1,1),(2,1),(3,1),(4,1)] [.string ByteArray.empty,.string ByteArray.empty,.string ByteArray.empty,.string ByteArray.empty,.slice none 0 0] ps:=Zax Yh
attribute [go_sem] Tryz.underlying93
@[go_sem] theorem Zxs:elts Tryz.prog 93=some (.slice 9):=by kernel_rfl
@[go_sem] theorem Zt9:foff Tryz.prog 107 0=some 0:=by kernel_rfl
@[go_sem] theorem Zwp:Zba Tryz.prog 107=some (some 9):=by kernel_rfl
@[go_sem] theorem Zt7:foff Tryz.prog 107 2=some 2:=by kernel_rfl
@[go_sem] theorem Zvv:foff Tryz.prog 51 1=some 1:=by kernel_rfl
@[go_sem] theorem Zvt:foff Tryz.prog 51 3=some 3:=by kernel_rfl
@[go_sem] theorem Zvu:foff Tryz.prog 51 2=some 2:=by kernel_rfl
@[go_sem] theorem Zvs:foff Tryz.prog 51 4=some 4:=by kernel_rfl
@[go_sem] theorem ZxJ:ZbL Tryz.prog 73=some ([.string ByteArray.empty,.string ByteArray.empty,.string ByteArray.empty,.string ByteArray.empty,.slice none 0 0],5):=by kernel_rfl
@[go_sem] theorem ZxC {ps:List (Nat × Value)}:Za2 Tryz.prog 73 ps=blt [(0,1),(1,1),(2,1),(3,1),(4,1)] [.string ByteArray.empty,.string ByteArray.empty,.string ByteArray.empty,.string ByteArray.empty,.slice none 0 0] ps:=Zax Yh
@[go_sem] theorem Zw2:Zaq Tryz.prog 73=some 5:=by kernel_rfl
attribute [go_sem] Tryz.underlying118
@[go_sem] theorem Zwv:elts Tryz.prog 118=some (.slice 8):=by kernel_rfl
@[go_sem] theorem Zwm:Zba Tryz.prog 127=some (some 8):=by kernel_rfl
@[go_sem] theorem Zt0:foff Tryz.prog 127 2=some 2:=by kernel_rfl
@[go_sem] theorem Zvj:foff Tryz.prog 73 1=some 1:=by kernel_rfl
@[go_sem] theorem Zvi:foff Tryz.prog 73 2=some 2:=by kernel_rfl
@[go_sem] theorem Zvk:foff Tryz.prog 73 0=some 0:=by kernel_rfl
@[go_sem] theorem Zvh:foff Tryz.prog 73 3=some 3:=by kernel_rfl
@[go_sem] theorem Zvg:foff Tryz.prog 73 4=some 4:=by kernel_rfl
@[go_sem] theorem Zxh:Zba Tryz.prog 73=some (some 5):=by kernel_rfl
@[go_sem] theorem Zxz {ps:List (Nat × Value)}:Za2 Tryz.prog 84 ps=blt [(0,5),(5,1),(6,1)] [.string ByteArray.empty,.string ByteArray.empty,.string ByteArray.empty,.string ByteArray.empty,.slice none 0 0,.slice none 0 0,.slice none 0 0] ps:=Zax Yh
@[go_sem] theorem Zu9:foff Tryz.prog 84 2=some 6:=by kernel_rfl
@[go_sem] theorem Zxe:Zba Tryz.prog 82=some none:=by kernel_rfl
@[go_sem] theorem ZwF {ps:List (Nat × Value)}:Za2 Tryz.prog 130 ps=blt [(0,1),(1,1)] [.string ByteArray.empty,.int .i64 0] ps:=Zax Yh
@[go_sem] theorem ZvG {sz:Nat} {ps:Array (Nat × Operand)} {ρ:Operand→Value}:iop0 Tryz.prog sz (.buildSlice 82 1 ps) ρ=bsl sz 1 2 [.string ByteArray.empty,.int .i64 0] (ps.toList.map fun p=>(p.1,ρ p.2)):=Zad Yh
@[go_sem] theorem Zur {low:Nat} {h:Heap} {s:Value} {a:Option Addr} {k c:Nat}:ZaC Tryz.prog low h #[82,82] s (.slice a k c)=iapp low h 2 24 s k (Zak h 2 (.slice a k c)):=Zas Yh Tryz.underlying82
@[go_sem] theorem ZwZ:Zaq Tryz.prog 82=some 1:=by kernel_rfl
@[go_sem] theorem Zva:foff Tryz.prog 84 1=some 5:=by kernel_rfl
@[go_sem] theorem Zvd:foff Tryz.prog 81 0=some 0:=by kernel_rfl
@[go_sem] theorem Zxf:Zba Tryz.prog 79=some none:=by kernel_rfl
attribute [go_sem] Tryz.underlying79
@[go_sem] theorem Zxt:elts Tryz.prog 79=some (.slice 2):=by kernel_rfl
@[go_sem] theorem Zve:foff Tryz.prog 78 1=some 1:=by kernel_rfl
@[go_sem] theorem Zvr:foff Tryz.prog 54 0=some 0:=by kernel_rfl
@[go_sem] theorem Zvb:foff Tryz.prog 84 0=some 0:=by kernel_rfl
@[go_sem] theorem ZxE {ps:List (Nat × Value)}:Za2 Tryz.prog 69 ps=blt [(0,1),(1,1)] [.int .i64 0,.string ByteArray.empty] ps:=Zax Yh
@[go_sem] theorem ZvJ {sz:Nat} {ps:Array (Nat × Operand)} {ρ:Operand→Value}:iop0 Tryz.prog sz (.buildSlice 70 1 ps) ρ=bsl sz 1 2 [.int .i64 0,.string ByteArray.empty] (ps.toList.map fun p=>(p.1,ρ p.2)):=Zad Yh
@[go_sem] theorem Zut {low:Nat} {h:Heap} {s:Value} {a:Option Addr} {k c:Nat}:ZaC Tryz.prog low h #[70,70] s (.slice a k c)=iapp low h 2 24 s k (Zak h 2 (.slice a k c)):=Zas Yh Tryz.underlying70
@[go_sem] theorem Zw4:Zaq Tryz.prog 70=some 1:=by kernel_rfl
@[go_sem] theorem ts_3:Zaq Tryz.prog 3=some 1:=by kernel_rfl
@[go_sem] theorem ZxA {ps:List (Nat × Value)}:Za2 Tryz.prog 81 ps=blt [(0,1),(1,1)] [.slice none 0 0,.int .i64 0] ps:=Zax Yh
@[go_sem] theorem Zw0:Zaq Tryz.prog 81=some 2:=by kernel_rfl
@[go_sem] theorem ZxB {ps:List (Nat × Value)}:Za2 Tryz.prog 78 ps=blt [(0,1),(1,1)] [.int .i64 0,.string ByteArray.empty] ps:=Zax Yh
@[go_sem] theorem ZvH {sz:Nat} {ps:Array (Nat × Operand)} {ρ:Operand→Value}:iop0 Tryz.prog sz (.buildSlice 79 1 ps) ρ=bsl sz 1 2 [.int .i64 0,.string ByteArray.empty] (ps.toList.map fun p=>(p.1,ρ p.2)):=Zad Yh
@[go_sem] theorem Zus {low:Nat} {h:Heap} {s:Value} {a:Option Addr} {k c:Nat}:ZaC Tryz.prog low h #[79,79] s (.slice a k c)=iapp low h 2 24 s k (Zak h 2 (.slice a k c)):=Zas Yh Tryz.underlying79
@[go_sem] theorem Zw1:Zaq Tryz.prog 79=some 1:=by kernel_rfl
@[go_sem] theorem Zvf:foff Tryz.prog 78 0=some 0:=by kernel_rfl
@[go_sem] theorem Zxg:Zba Tryz.prog 78=some (some 2):=by kernel_rfl
@[go_sem] theorem ZvN {sz:Nat} {ps:Array (Nat × Operand)} {ρ:Operand→Value}:iop0 Tryz.prog sz (.buildSlice 39 3 ps) ρ=bsl sz 3 1 [.string ByteArray.empty,.string ByteArray.empty,.string ByteArray.empty] (ps.toList.map fun p=>(p.1,ρ p.2)):=Zad Yh
@[go_sem] theorem ZwE {ps:List (Nat × Value)}:Za2 Tryz.prog 139 ps=blt [(0,1),(1,1),(2,1)] [.slice none 0 0,.int .i64 0,.slice none 0 0] ps:=Zax Yh
@[go_sem] theorem Zv8:Zaq Tryz.prog 139=some 3:=by kernel_rfl
@[go_sem] theorem ZtW:foff Tryz.prog 139 1=some 1:=by kernel_rfl
@[go_sem] theorem ZtV:foff Tryz.prog 139 2=some 2:=by kernel_rfl
@[go_sem] theorem Zxc:Zba Tryz.prog 93=some none:=by kernel_rfl
@[go_sem] theorem Zt8:foff Tryz.prog 107 1=some 1:=by kernel_rfl
@[go_sem] theorem ZvK {sz:Nat} {ps:Array (Nat × Operand)} {ρ:Operand→Value}:iop0 Tryz.prog sz (.buildSlice 70 0 ps) ρ=bsl sz 0 2 [] (ps.toList.map fun p=>(p.1,ρ p.2)):=Zad Yh
@[go_sem] theorem Zwc:Zaq Tryz.prog 107=some 9:=by kernel_rfl
@[go_sem] theorem Zt6:foff Tryz.prog 107 3=some 3:=by kernel_rfl
@[go_sem] theorem ZwS:ZbL Tryz.prog 107=some ([.int .i64 0,.int .i64 0,.string ByteArray.empty,.int .i32 0,.slice none 0 0,.bool false,.slice none 0 0,.slice none 0 0,.bool false],9):=by kernel_rfl
@[go_sem] theorem ZvP {sz:Nat} {ps:Array (Nat × Operand)} {ρ:Operand→Value}:iop0 Tryz.prog sz (.buildSlice 39 0 ps) ρ=bsl sz 0 1 [] (ps.toList.map fun p=>(p.1,ρ p.2)):=Zad Yh
@[go_sem] theorem ZwQ:ZbL Tryz.prog 127=some ([.int .i64 0,.int .i64 0,.string ByteArray.empty,.int .i32 0,.slice none 0 0,.bool false,.slice none 0 0,.slice none 0 0],8):=by kernel_rfl
@[go_sem] theorem Zv9:Zaq Tryz.prog 127=some 8:=by kernel_rfl
@[go_sem] theorem Zul {sz:Nat} {ps:Array (Nat × Operand)} {ρ:Operand→Value}:iop0 Tryz.prog sz (.buildSlice 118 1 ps) ρ=bsl sz 1 8 [.int .i64 0,.int .i64 0,.string ByteArray.empty,.int .i32 0,.slice none 0 0,.bool false,.slice none 0 0,.slice none 0 0] (ps.toList.map fun p=>(p.1,ρ p.2)):=Zad Yh
@[go_sem] theorem ZrY {low:Nat} {h:Heap} {s:Value} {a:Option Addr} {k c:Nat}:ZaC Tryz.prog low h #[118,118] s (.slice a k c)=iapp low h 8 120 s k (Zak h 8 (.slice a k c)):=Zas Yh Tryz.underlying118
@[go_sem] theorem Zt2:foff Tryz.prog 127 0=some 0:=by kernel_rfl
@[go_sem] theorem ZtZ:foff Tryz.prog 127 3=some 3:=by kernel_rfl
@[go_sem] theorem Zt1:foff Tryz.prog 127 1=some 1:=by kernel_rfl
@[go_sem] theorem Zvo:foff Tryz.prog 69 0=some 0:=by kernel_rfl
@[go_sem] theorem ZvI {sz:Nat} {ps:Array (Nat × Operand)} {ρ:Operand→Value}:iop0 Tryz.prog sz (.buildSlice 79 0 ps) ρ=bsl sz 0 2 [] (ps.toList.map fun p=>(p.1,ρ p.2)):=Zad Yh
@[go_sem] theorem ZtX:foff Tryz.prog 139 0=some 0:=by kernel_rfl
@[go_sem] theorem ZwI {ps:List (Nat × Value)}:Za2 Tryz.prog 107 ps=blt [(0,1),(1,1),(2,1),(3,1),(4,5)] [.int .i64 0,.int .i64 0,.string ByteArray.empty,.int .i32 0,.slice none 0 0,.bool false,.slice none 0 0,.slice none 0 0,.bool false] ps:=Zax Yh
@[go_sem] theorem ZwG {ps:List (Nat × Value)}:Za2 Tryz.prog 127 ps=blt [(0,1),(1,1),(2,1),(3,1),(4,4)] [.int .i64 0,.int .i64 0,.string ByteArray.empty,.int .i32 0,.slice none 0 0,.bool false,.slice none 0 0,.slice none 0 0] ps:=Zax Yh
@[go_sem] theorem ZtY:foff Tryz.prog 127 4=some 4:=by kernel_rfl
@[go_sem] theorem Zwa:Zaq Tryz.prog 125=some 4:=by kernel_rfl
@[go_sem] theorem Zxb:Zaq Tryz.prog 21=some 1:=by kernel_rfl
attribute [go_sem] Tryz.underlying143
@[go_sem] theorem ZwN:ZbL Tryz.prog 180=some ([.slice none 0 0,.bool false,.slice none 0 0],3):=by kernel_rfl
@[go_sem] theorem Zv4:Zaq Tryz.prog 180=some 3:=by kernel_rfl
@[go_sem] theorem Zwh:Zba Tryz.prog 180=some (some 3):=by kernel_rfl
@[go_sem] theorem Zum {sz:Nat} {ps:Array (Nat × Operand)} {ρ:Operand→Value}:iop0 Tryz.prog sz (.buildSlice 103 1 ps) ρ=bsl sz 1 3 [.slice none 0 0,.bool false,.slice none 0 0] (ps.toList.map fun p=>(p.1,ρ p.2)):=Zad Yh
@[go_sem] theorem ZrZ {low:Nat} {h:Heap} {s:Value} {a:Option Addr} {k c:Nat}:ZaC Tryz.prog low h #[103,103] s (.slice a k c)=iapp low h 3 56 s k (Zak h 3 (.slice a k c)):=Zas Yh Tryz.underlying103
attribute [go_sem] Tryz.underlying103
@[go_sem] theorem Zww:elts Tryz.prog 103=some (.slice 3):=by kernel_rfl
@[go_sem] theorem Zuo {sz:Nat} {ps:Array (Nat × Operand)} {ρ:Operand→Value}:iop0 Tryz.prog sz (.buildSlice 102 1 ps) ρ=bsl sz 1 1 [.int .i64 0] (ps.toList.map fun p=>(p.1,ρ p.2)):=Zad Yh
@[go_sem] theorem ZwT:ZbL Tryz.prog 105=some ([.slice none 0 0,.bool false,.slice none 0 0,.slice none 0 0,.bool false],5):=by kernel_rfl
@[go_sem] theorem Zwd:Zaq Tryz.prog 105=some 5:=by kernel_rfl
@[go_sem] theorem Zwq:Zba Tryz.prog 105=some (some 5):=by kernel_rfl
@[go_sem] theorem ZvR {sz:Nat} {ps:Array (Nat × Operand)} {ρ:Operand→Value}:iop0 Tryz.prog sz (.buildSlice 22 1 ps) ρ=bsl sz 1 1 [.int .i32 0] (ps.toList.map fun p=>(p.1,ρ p.2)):=Zad Yh
@[go_sem] theorem Zux {low:Nat} {h:Heap} {s:Value} {a:Option Addr} {k c:Nat}:ZaC Tryz.prog low h #[22,22] s (.slice a k c)=iapp low h 1 4 s k (Zak h 1 (.slice a k c)):=Zas Yh Tryz.underlying22
@[go_sem] theorem ZvF {sz:Nat} {ps:Array (Nat × Operand)} {ρ:Operand→Value}:iop0 Tryz.prog sz (.buildSlice 93 1 ps) ρ=bsl sz 1 9 [.int .i64 0,.int .i64 0,.string ByteArray.empty,.int .i32 0,.slice none 0 0,.bool false,.slice none 0 0,.slice none 0 0,.bool false] (ps.toList.map fun p=>(p.1,ρ p.2)):=Zad Yh
@[go_sem] theorem Zuq {low:Nat} {h:Heap} {s:Value} {a:Option Addr} {k c:Nat}:ZaC Tryz.prog low h #[93,93] s (.slice a k c)=iapp low h 9 128 s k (Zak h 9 (.slice a k c)):=Zas Yh Tryz.underlying93
@[go_sem] theorem ZwX:Zaq Tryz.prog 93=some 1:=by kernel_rfl
attribute [go_sem] Tryz.underlying165
@[go_sem] theorem ZwR:ZbL Tryz.prog 125=some ([.slice none 0 0,.bool false,.slice none 0 0,.slice none 0 0],4):=by kernel_rfl
@[go_sem] theorem ZwM:ZbL Tryz.prog 197=some ([.bool false,.string ByteArray.empty,.string ByteArray.empty],3):=by kernel_rfl
@[go_sem] theorem Zv3:Zaq Tryz.prog 197=some 3:=by kernel_rfl
@[go_sem] theorem Zwn:Zba Tryz.prog 125=some (some 4):=by kernel_rfl
@[go_sem] theorem Zt3:foff Tryz.prog 125 3=some 3:=by kernel_rfl
@[go_sem] theorem Zwo:Zba Tryz.prog 123=some none:=by kernel_rfl
@[go_sem] theorem Zwg:Zba Tryz.prog 197=some (some 3):=by kernel_rfl
@[go_sem] theorem Zuk {sz:Nat} {ps:Array (Nat × Operand)} {ρ:Operand→Value}:iop0 Tryz.prog sz (.buildSlice 123 1 ps) ρ=bsl sz 1 3 [.bool false,.string ByteArray.empty,.string ByteArray.empty] (ps.toList.map fun p=>(p.1,ρ p.2)):=Zad Yh
@[go_sem] theorem ZrX {low:Nat} {h:Heap} {s:Value} {a:Option Addr} {k c:Nat}:ZaC Tryz.prog low h #[123,123] s (.slice a k c)=iapp low h 3 40 s k (Zak h 3 (.slice a k c)):=Zas Yh Tryz.underlying123
@[go_sem] theorem Zwb:Zaq Tryz.prog 123=some 1:=by kernel_rfl
attribute [go_sem] Tryz.underlying123
@[go_sem] theorem Zt5:foff Tryz.prog 125 0=some 0:=by kernel_rfl
@[go_sem] theorem Zwe:Zaq Tryz.prog 102=some 1:=by kernel_rfl
@[go_sem] theorem ZwH {ps:List (Nat × Value)}:Za2 Tryz.prog 125 ps=blt [(0,1),(1,1),(2,1),(3,1)] [.slice none 0 0,.bool false,.slice none 0 0,.slice none 0 0] ps:=Zax Yh
@[go_sem] theorem Zt4:foff Tryz.prog 125 2=some 2:=by kernel_rfl
@[go_sem] theorem Zxa:Zaq Tryz.prog 22=some 1:=by kernel_rfl
@[go_sem] theorem ZwB {ps:List (Nat × Value)}:Za2 Tryz.prog 180 ps=blt [(0,2),(2,1)] [.slice none 0 0,.bool false,.slice none 0 0] ps:=Zax Yh
@[go_sem] theorem ZwP:ZbL Tryz.prog 176=some ([.slice none 0 0],1):=by kernel_rfl
@[go_sem] theorem Zv6:Zaq Tryz.prog 176=some 1:=by kernel_rfl
@[go_sem] theorem Zwj:Zba Tryz.prog 176=some (some 1):=by kernel_rfl
@[go_sem] theorem ZwJ {ps:List (Nat × Value)}:Za2 Tryz.prog 105 ps=blt [(0,1),(1,1),(2,1),(3,1),(4,1)] [.slice none 0 0,.bool false,.slice none 0 0,.slice none 0 0,.bool false] ps:=Zax Yh
@[go_sem] theorem Zug {sz:Nat} {ps:Array (Nat × Operand)} {ρ:Operand→Value}:iop0 Tryz.prog sz (.buildSlice 22 22 ps) ρ=bsl sz 22 1 [.int .i32 0,.int .i32 0,.int .i32 0,.int .i32 0,.int .i32 0,.int .i32 0,.int .i32 0,.int .i32 0,.int .i32 0,.int .i32 0,.int .i32 0,.int .i32 0,.int .i32 0,.int .i32 0,.int .i32 0,.int .i32 0,.int .i32 0,.int .i32 0,.int .i32 0,.int .i32 0,.int .i32 0,.int .i32 0] (ps.toList.map fun p=>(p.1,ρ p.2)):=Zad Yh
@[go_sem] theorem Zuh {sz:Nat} {ps:Array (Nat × Operand)} {ρ:Operand→Value}:iop0 Tryz.prog sz (.buildSlice 22 17 ps) ρ=bsl sz 17 1 [.int .i32 0,.int .i32 0,.int .i32 0,.int .i32 0,.int .i32 0,.int .i32 0,.int .i32 0,.int .i32 0,.int .i32 0,.int .i32 0,.int .i32 0,.int .i32 0,.int .i32 0,.int .i32 0,.int .i32 0,.int .i32 0,.int .i32 0] (ps.toList.map fun p=>(p.1,ρ p.2)):=Zad Yh
@[go_sem] theorem ZvQ {sz:Nat} {ps:Array (Nat × Operand)} {ρ:Operand→Value}:iop0 Tryz.prog sz (.buildSlice 22 4 ps) ρ=bsl sz 4 1 [.int .i32 0,.int .i32 0,.int .i32 0,.int .i32 0] (ps.toList.map fun p=>(p.1,ρ p.2)):=Zad Yh
@[go_sem] theorem Zui {sz:Nat} {ps:Array (Nat × Operand)} {ρ:Operand→Value}:iop0 Tryz.prog sz (.buildSlice 22 15 ps) ρ=bsl sz 15 1 [.int .i32 0,.int .i32 0,.int .i32 0,.int .i32 0,.int .i32 0,.int .i32 0,.int .i32 0,.int .i32 0,.int .i32 0,.int .i32 0,.int .i32 0,.int .i32 0,.int .i32 0,.int .i32 0,.int .i32 0] (ps.toList.map fun p=>(p.1,ρ p.2)):=Zad Yh
@[go_sem] theorem Zuf {sz:Nat} {ps:Array (Nat × Operand)} {ρ:Operand→Value}:iop0 Tryz.prog sz (.buildSlice 22 24 ps) ρ=bsl sz 24 1 [.int .i32 0,.int .i32 0,.int .i32 0,.int .i32 0,.int .i32 0,.int .i32 0,.int .i32 0,.int .i32 0,.int .i32 0,.int .i32 0,.int .i32 0,.int .i32 0,.int .i32 0,.int .i32 0,.int .i32 0,.int .i32 0,.int .i32 0,.int .i32 0,.int .i32 0,.int .i32 0,.int .i32 0,.int .i32 0,.int .i32 0,.int .i32 0] (ps.toList.map fun p=>(p.1,ρ p.2)):=Zad Yh
@[go_sem] theorem ZvA {h:Heap} {s:List UInt8}:ZaF Tryz.prog h 9 63 (.string (text s))=icvt (some .u8) s h:=Zek Tryz.underlying9 Yh
@[go_sem] theorem ZwD {ps:List (Nat × Value)}:Za2 Tryz.prog 176 ps=blt [(0,1)] [.slice none 0 0] ps:=Zax Yh
attribute [go_sem] Tryz.underlying167
@[go_sem] theorem Zv5:Zaq Tryz.prog 178=some 2:=by kernel_rfl
@[go_sem] theorem Zwi:Zba Tryz.prog 178=some (some 2):=by kernel_rfl
@[go_sem] theorem ZwO:ZbL Tryz.prog 178=some ([.slice none 0 0,.bool false],2):=by kernel_rfl
@[go_sem] theorem ZwC {ps:List (Nat × Value)}:Za2 Tryz.prog 178 ps=blt [(0,1),(1,1)] [.slice none 0 0,.bool false] ps:=Zax Yh
attribute [go_sem] Tryz.underlying102
@[go_sem] theorem Zwx:elts Tryz.prog 102=some (.slice 1):=by kernel_rfl
@[go_sem] theorem Zup {sz:Nat} {ps:Array (Nat × Operand)} {ρ:Operand→Value}:iop0 Tryz.prog sz (.buildSlice 102 0 ps) ρ=bsl sz 0 1 [] (ps.toList.map fun p=>(p.1,ρ p.2)):=Zad Yh
@[go_sem] theorem Zr0 {low:Nat} {h:Heap} {s:Value} {a:Option Addr} {k c:Nat}:ZaC Tryz.prog low h #[102,102] s (.slice a k c)=iapp low h 1 8 s k (Zak h 1 (.slice a k c)):=Zas Yh Tryz.underlying102
@[go_sem] theorem Zun {sz:Nat} {ps:Array (Nat × Operand)} {ρ:Operand→Value}:iop0 Tryz.prog sz (.buildSlice 103 0 ps) ρ=bsl sz 0 3 [] (ps.toList.map fun p=>(p.1,ρ p.2)):=Zad Yh
@[go_sem] theorem ZvS {sz:Nat} {ps:Array (Nat × Operand)} {ρ:Operand→Value}:iop0 Tryz.prog sz (.buildSlice 22 0 ps) ρ=bsl sz 0 1 [] (ps.toList.map fun p=>(p.1,ρ p.2)):=Zad Yh
@[go_sem] theorem ZwA {ps:List (Nat × Value)}:Za2 Tryz.prog 197 ps=blt [(0,1),(1,1),(2,1)] [.bool false,.string ByteArray.empty,.string ByteArray.empty] ps:=Zax Yh
@[go_sem] theorem Zv2:Zaq Tryz.prog 220=some 2:=by kernel_rfl
@[go_sem] theorem ZtM:foff Tryz.prog 220 0=some 0:=by kernel_rfl
@[go_sem] theorem tc_4:Zba Tryz.prog 4=some none:=by kernel_rfl
@[go_sem] theorem ZtL:foff Tryz.prog 220 1=some 1:=by kernel_rfl
@[go_sem] theorem ZwL:ZbL Tryz.prog 220=some ([.bool false,.string ByteArray.empty],2):=by kernel_rfl
@[go_sem] theorem Zwz {ps:List (Nat × Value)}:Za2 Tryz.prog 220 ps=blt [(0,1),(1,1)] [.bool false,.string ByteArray.empty] ps:=Zax Yh
@[go_sem] theorem Zwf:Zba Tryz.prog 220=some (some 2):=by kernel_rfl
@[go_sem] theorem ZtU:foff Tryz.prog 176 0=some 0:=by kernel_rfl
@[go_sem] theorem Zwk:Zba Tryz.prog 174=some none:=by kernel_rfl
attribute [go_sem] Tryz.underlying174
@[go_sem] theorem Zwr {sz:Nat} {k k':IntKind} {l c:Int}:Zf8 Tryz.prog sz 174 (.int k l) (.int k' c)=imk sz 1 4 [.int .u32 0] l c:=Zfn Yh
@[go_sem] theorem Zwu:elts Tryz.prog 174=some (.slice 1):=by kernel_rfl
@[go_sem] theorem Zwl:Zba Tryz.prog 165=some none:=by kernel_rfl
@[go_sem] theorem Zv7:Zaq Tryz.prog 165=some 1:=by kernel_rfl
@[go_sem] theorem Zuj {sz:Nat} {ps:Array (Nat × Operand)} {ρ:Operand→Value}:iop0 Tryz.prog sz (.buildSlice 174 2 ps) ρ=bsl sz 2 1 [.int .u32 0,.int .u32 0] (ps.toList.map fun p=>(p.1,ρ p.2)):=Zad Yh
@[go_sem] theorem ZtR:foff Tryz.prog 180 0=some 0:=by kernel_rfl
@[go_sem] theorem Zue {sz:Nat} {ps:Array (Nat × Operand)} {ρ:Operand→Value}:iop0 Tryz.prog sz (.buildSlice 246 1 ps) ρ=bsl sz 1 2 [.slice none 0 0,.bool false] (ps.toList.map fun p=>(p.1,ρ p.2)):=Zad Yh
@[go_sem] theorem ZtT:foff Tryz.prog 178 0=some 0:=by kernel_rfl
attribute [go_sem] Tryz.underlying246
@[go_sem] theorem Zwt:elts Tryz.prog 246=some (.slice 2):=by kernel_rfl
@[go_sem] theorem ZtS:foff Tryz.prog 178 1=some 1:=by kernel_rfl
@[go_sem] theorem ZtP:foff Tryz.prog 197 0=some 0:=by kernel_rfl
@[go_sem] theorem ZtO:foff Tryz.prog 197 1=some 1:=by kernel_rfl
@[go_sem] theorem ZtN:foff Tryz.prog 197 2=some 2:=by kernel_rfl
@[go_sem] theorem ZtQ:foff Tryz.prog 180 1=some 2:=by kernel_rfl
@[go_sem] theorem Zxq {sz:Nat} {k k':IntKind} {l c:Int}:Zf8 Tryz.prog sz 63 (.int k l) (.int k' c)=imk sz 1 1 [.int .u8 0] l c:=Zfn Yh
@[go_sem] theorem Zws {sz:Nat} {k k':IntKind} {l c:Int}:Zf8 Tryz.prog sz 102 (.int k l) (.int k' c)=imk sz 1 8 [.int .i64 0] l c:=Zfn Yh
@[go_sem] theorem ZtK:ZqU Tryz.prog 176 0=some (false,0,1):=by kernel_rfl
end Go.Proofs.YtachkofbmodnnaaGreat.Hd
namespace Go.Proofs.YtachkofbmodnnaaGreat.N1
open Go Go.Im Go.Im.Limbs Go.Proofs Go.RowKit Hd
set_option maxRecDepth 100000
theorem ZaI (ds:List Nat) (h:Heap) {a:Option Addr} {n c:Nat} (s:Sl h 1 a n c (lv ds)) (hd:Small ds) (hn:n≤1099511627776):Runs K 162 #[.slice a n c] h fun v w=>NatV w v (val ds):=by
 have hlen:ds.length=n:=by have:=s.length;rw [Zan] at this;omega
 refine Runs.of Kok (Does.intro rfl Ye Tryz.func162 rfl ?_)
 simp +decide only [go_sem,WR,WS]
 have hx:Ext h (h.push (.cells [.slice none 0 0] 1)):=(Ext.refl h).push _
 have hz:(h.push (.cells [.slice none 0 0] 1)).get h.size= .cells [.slice none 0 0] 1:=by rw [Heap.Zam,if_pos rfl]
 have hs1:(h.push (.cells [.slice none 0 0] 1)).size=h.size+1:=rfl
 generalize h.push (.cells [.slice none 0 0] 1)=w0 at hx hz hs1
 refine Zah (α:=Nat × Option Addr × Nat) (fun k e w=>k.1≤n∧e.size=22∧w=w0∧e.get 2= .pointer (some ⟨h.size,0,none⟩)∧val (ds.take k.1)=val ds∧e.get 0= .slice k.2.1 k.1 k.2.2∧Sl h 1 k.2.1 k.1 k.2.2 (lv (ds.take k.1))) (fun k=>k.1) (n,a,c) ?_ ?_
 ·refine ⟨Nat.le_refl _,Yc,rfl,Yc,?_,Yc,?_⟩
  ·rw [List.take_of_length_le Ya]
  ·rw [List.take_of_length_le Ya];exact s
 ·rintro ⟨k,a',c'⟩ e w ⟨hk,hsz,rfl,g2,hv,g0,s'⟩ next
  simp only at hk hv g0 s'
  have fin:Top (ds.take k)→∀ x,NatV (w.set h.size x) (.agg #[.slice a' k c']) (val ds):=fun ht x=>by
   rw [← hv]
   exact NatV.mk (s'.ext (hx.set (Nat.le_refl _) x)) (hd.take k) ht
  by_cases h0:k=0
  ·subst h0
   have f1:=fin (by simp [Top])
   simp +decide only [go_sem,WR,WS,hsz,g0,g2,hz]
   exact f1 _
  ·have i1:(0:Int) < (k:Int):=by omega
   have i2:IntKind.i64.wrap ((k:Int) - 1)=(k:Int) - 1:=wrap_i64 Ya Ya
   have i3:(0:Int)≤(k:Int) - 1:=Ya
   have i4:(k:Int) - 1 < (k:Int):=Ya
   have i5:((k:Int) - 1).toNat=k - 1:=Ya
   obtain ⟨d,hd1⟩:∃ d,(ds.take k)[k - 1]? =some d:=⟨_,List.getElem?_eq_getElem Yl⟩
   obtain ⟨b,o,cs,rfl,hb,hg,hc⟩:=(s'.ext hx).one (Za0 hd1)
   have hd2:ds[k - 1]? =some d:=by
    rw [List.getElem?_take] at hd1
    split at hd1
    ·exact hd1
    ·cases hd1
   have hk1:k - 1+1=k:=Ya
   by_cases hd0:(d:Int)=0
   ·obtain ⟨a2,c2,hr,s2⟩:=s'.cut hx Ya (lo:=none) (hi:=some (.int .i64 ((k:Int) - 1))) (l:=0) (u:=k - 1) rfl (by simp only [Zag,i3,if_true,i5]) (Nat.zero_le _) Ya
    simp +decide only [go_sem,WR,WS,hsz,g0,g2,i1,i2,i3,i4,i5,Nat.mul_one,hg,hc,hd0,hr]
    have e0:d=0:=Ya
    subst e0
    refine next (k - 1,a2,c2) _ _ ⟨by simp only;omega,Yb,rfl,Yt,?_,by simp +decide only [go_sem,hsz,Nat.sub_zero],?_⟩ Yj
    ·rw [← hv]
     simp only
     have:=Zlu (l:=ds) (k:=k - 1) Ya hd2
     rw [hk1] at this
     exact this.symm
    ·simpa [Zqh,List.take_take,Nat.min_eq_left (show k - 1≤k by omega)] using s2
   ·have f1:=fin (by
     unfold Top
     rw [List.getLast?_eq_getElem?,List.length_take,Nat.min_eq_left Ya,hd1]
     intro hh
     cases hh
     exact hd0 rfl)
    simp +decide only [go_sem,WR,WS,hsz,g0,g2,i1,i2,i3,i4,i5,Nat.mul_one,hg,hc,hd0,hz]
    exact f1 _
theorem Zc3 (x y c:Nat) (h:Heap) (hx:x < 4294967296) (hy:y < 4294967296) (hc:c≤1):Runs K 163 #[.int .u32 (x:Int),.int .u32 (y:Int),.int .u32 (c:Int)] h fun v _ =>
  v= .tuple #[.int .u32 (((x+y+c)%4294967296:Nat):Int),.int .u32 (((x+y+c) / 4294967296:Nat):Int)]:=by
 refine Runs.of Kok (Does.intro rfl Ye Tryz.func163 rfl ?_)
 have q:(x+y+c) / 4294967296%4294967296=(x+y+c) / 4294967296:=Ya
 simp +decide only [go_sem,WR,WS,w64 (show x < 18446744073709551616 by omega),w64 (show y < 18446744073709551616 by omega),w64 (show c < 18446744073709551616 by omega),wadd (show x+y < 18446744073709551616 by omega),wadd (show x+y+c < 18446744073709551616 by omega),w32,Zio,q]
theorem ZhS (x y c:Nat) (h:Heap) (hx:x < 4294967296) (hy:y < 4294967296) (hc:c≤1):Runs K 195 #[.int .u32 (x:Int),.int .u32 (y:Int),.int .u32 (c:Int)] h fun v _ =>
  v= .tuple #[.int .u32 (((x+8589934592 - y - c)%4294967296:Nat):Int),.int .u32 ((if x < y+c then 1 else 0:Nat):Int)]:=by
 refine Runs.of Kok (Does.intro rfl Ye Tryz.func195 rfl ?_)
 have q:((x+4294967296 - y)%4294967296+4294967296 - c)%4294967296=(x+8589934592 - y - c)%4294967296:=Ya
 have l1:4294967295 ^^^ x < 4294967296:=Nat.xor_lt_two_pow (n:=32) Ya hx
 have l2:x ^^^ y < 4294967296:=Nat.xor_lt_two_pow (n:=32) hx hy
 have l3:4294967295 ^^^ (x ^^^ y) < 4294967296:=Nat.xor_lt_two_pow (n:=32) Ya l2
 have l4:(x+8589934592 - y - c)%4294967296 < 4294967296:=Nat.mod_lt _ Ya
 have l5:((4294967295 ^^^ x) &&& y) < 4294967296:=Nat.lt_of_le_of_lt Nat.and_le_right hy
 have l6:((4294967295 ^^^ (x ^^^ y)) &&& ((x+8589934592 - y - c)%4294967296)) < 4294967296:=Nat.lt_of_le_of_lt Nat.and_le_right l4
 simp +decide only [go_sem,WR,WS,Zo2 (show y≤4294967296 by omega),Zo2 (show c≤4294967296 by omega),q,Zsp hx,Zpx l1 hy,Zso hx hy,Zsp l2,Zpx l3 l4,ZsA l5 l6,Zsy,ZoY hx hy hc]
theorem of_run (m:Nat) (h:Heap) (hm:m < 18446744073709551616):Runs K 152 #[.int .u64 (m:Int)] h fun v w=>NatV w v m:=by
 refine Runs.of Kok (Does.intro rfl Ye Tryz.func152 rfl ?_)
 obtain ⟨w0,e0,hx,hs,z0,z1⟩:=lay2 h (.cells [.slice none 0 0] 1) (.cells [.int .u32 ((m%4294967296:Nat):Int),.int .u32 ((m / 4294967296:Nat):Int)] 1)
 have q:m / 4294967296%4294967296=m / 4294967296:=Ya
 simp +decide only [go_sem,WR,WS,w32,Zio,q,e0]
 have sm:Small [m%4294967296,m / 4294967296]:=Small.cons YL (Small.cons YL Small.nil)
 refine Zaa Kok Ya (ZaI [m%4294967296,m / 4294967296] w0 (a:=some ⟨h.size+1,0,none⟩) (n:=2) (c:=2) (.inr (.inr ⟨h.size+1,0,_,rfl,by omega,by omega,by rw [z1];rfl,by simp,rfl,.inl ⟨by omega,by simp [big]⟩⟩)) sm Ya) fun v w1 hx1 hv=> ?_
 have e1:val [m%4294967296,m / 4294967296]=m:=by
  simp only [ZaE,ZaQ,B_eq]
  omega
 rw [e1] at hv
 obtain ⟨a,c,rfl,s⟩:=hv.open
 have z2:w1.get h.size=_:=(hx1.2 _ Ya).trans z0
 have hz1:=hx1.1
 obtain ⟨w2,e2,hx2,hs2,z3,z4⟩:=put1 (hx.trans hx1) (Nat.le_refl h.size) (.cells [.slice a (dig m).length c] 1)
 simp +decide only [go_sem,WR,WS,z2,e2,z3]
 exact hv.over z2 Yn Yn hs2 z3 z4
theorem Zbq (m:Nat) (h:Heap) {v:Value} (hv:NatV h v m):Runs K 157 #[v] h fun x _=>x= .bool (decide (m=0)):=by
 obtain ⟨a,c,rfl,s⟩:=hv.open
 refine Runs.of Kok (Does.intro rfl Ye Tryz.func157 rfl ?_)
 simp +decide only [go_sem,WR,WS]
 congr 1
 rw [decide_eq_decide]
 rw [← ZdL,← List.length_eq_zero_iff]
 omega
theorem Zmz (m:Nat) (h:Heap) {v:Value} (hv:NatV h v m):Runs K 173 #[v] h fun x _=>x= .int .i64 (((dig m).length:Nat):Int):=by
 obtain ⟨a,c,rfl,s⟩:=hv.open
 refine Runs.of Kok (Does.intro rfl Ye Tryz.func173 rfl ?_)
 simp +decide only [go_sem,WR,WS]
theorem Zqb (m:Nat) (h:Heap) {v:Value} (hv:NatV h v m):Runs K 172 #[v] h fun x _=>x= .bool (decide (m=1)):=by
 obtain ⟨a,c,rfl,s⟩:=hv.open
 refine Runs.of Kok (Does.intro rfl Ye Tryz.func172 rfl ?_)
 by_cases h1:(((dig m).length:Nat):Int)=1
 ·obtain ⟨d,hd⟩:∃ d,dig m=[d]:=List.length_eq_one_iff.1 Ya
  have hm:m=d:=by rw [← ZaL m,hd];simp [ZaE,ZaQ]
  subst hm
  obtain ⟨b,o,cs,rfl,hb,hg,hc⟩:=s.one (i:=0) (x:= .int .u32 (m:Int)) (by rw [hd];rfl)
  have hne:¬ b=h.size:=Ya
  rw [hd]
  simp +decide only [go_sem,WR,WS,List.length_cons,List.length_nil,Nat.zero_add,hne,hg,Nat.mul_one,Nat.add_zero]
  rw [Nat.add_zero] at hc
  simp +decide only [go_sem,WR,WS,hc]
  congr 1
  rw [decide_eq_decide]
  omega
 ·simp +decide only [go_sem,WR,WS,h1]
  have:¬ m=1:=by
   rintro rfl
   rw [Zq2 Ya YL] at h1
   exact h1 rfl
  simp [this]
theorem Zfd (m:Nat) (h:Heap) {v:Value} (hv:NatV h v m):Runs K 182 #[v] h fun x _ =>
  x=if m < 18446744073709551616 then .tuple #[.int .u64 (m:Int),.bool true] else .tuple #[.int .u64 0,.bool false]:=by
 obtain ⟨a,c,rfl,s⟩:=hv.open
 have hle:(dig m).length≤2↔m < 18446744073709551616:=by
  rw [Zaz]
  rfl
 refine Runs.of Kok (Does.intro rfl Ye Tryz.func182 rfl ?_)
 by_cases h0:(((dig m).length:Nat):Int)=0
 ·have hm:m=0:=ZdL.1 (List.length_eq_zero_iff.1 Ya)
  subst hm
  simp +decide only [go_sem,WR,WS,ZaU,List.length_nil]
  rfl
 by_cases h1:(((dig m).length:Nat):Int)=1
 ·obtain ⟨d,hd⟩:∃ d,dig m=[d]:=List.length_eq_one_iff.1 Ya
  have hm:m=d:=by rw [← ZaL m,hd];simp [ZaE,ZaQ]
  subst hm
  have hB:m < 4294967296:=Zap m m (by rw [hd];simp)
  obtain ⟨b,o,cs,rfl,hb,hg,hc⟩:=s.one (i:=0) (x:= .int .u32 (m:Int)) (by rw [hd];rfl)
  have hne:¬ b=h.size:=Ya
  rw [Nat.add_zero] at hc
  have hlt:m < 18446744073709551616:=Ya
  rw [hd]
  simp +decide only [go_sem,WR,WS,List.length_cons,List.length_nil,Nat.zero_add,hne,hg,Nat.mul_one,Nat.add_zero,hc,w64 hlt,hlt]
 by_cases h2:(((dig m).length:Nat):Int)=2
 ·obtain ⟨d,e,hd⟩:∃ d e,dig m=[d,e]:=by
   match hq:dig m,h2 with
   | [d,e],_=>exact ⟨d,e,rfl⟩
  have hm:m=d+4294967296*e:=by rw [← ZaL m,hd];simp [ZaE,ZaQ,B_eq]
  have hd1:d < 4294967296:=Zap m d (by rw [hd];simp)
  have he1:e < 4294967296:=Zap m e (by rw [hd];simp)
  obtain ⟨b,o,cs,rfl,hb,hg,hc⟩:=s.one (i:=0) (x:= .int .u32 (d:Int)) (by rw [hd];rfl)
  obtain ⟨b',o',cs',hbb,hb',hg',hc'⟩:=s.one (i:=1) (x:= .int .u32 (e:Int)) (by rw [hd];rfl)
  cases hbb
  rw [hg] at hg'
  cases hg'
  have hne:¬ b=h.size:=Ya
  rw [Nat.add_zero] at hc
  have hlt:m < 18446744073709551616:=Ya
  have q1:e*4294967296%18446744073709551616=e*4294967296:=Ya
  have q2:(d ||| e*4294967296)=m:=by
   rw [Nat.or_comm,Zh8 hd1]
   omega
  rw [hd]
  simp +decide only [go_sem,WR,WS,List.length_cons,List.length_nil,Nat.zero_add,hne,hg,Nat.mul_one,Nat.add_zero,hc,hc',w64 (show d < 18446744073709551616 by omega),w64 (show e < 18446744073709551616 by omega),Zf4,q1,Zjo (show d < 18446744073709551616 by omega) (show e*4294967296 < 18446744073709551616 by omega),q2,hlt]
 ·have hlt:¬ m < 18446744073709551616:=by
   rw [← hle]
   omega
  simp +decide only [go_sem,WR,WS,h0,h1,h2,hlt]
theorem ZeU (x y:Nat) (h:Heap) {v u:Value} (hv:NatV h v x) (hu:NatV h u y) (hl:(dig x).length≤1099511627776):Runs K 183 #[v,u] h fun r _=>r= .int .i64 (if x < y then -1 else if x=y then 0 else 1):=by
 obtain ⟨a,c,rfl,s⟩:=hv.open
 obtain ⟨b,d,rfl,t⟩:=hu.open
 refine Runs.of Kok (Does.intro rfl Ye Tryz.func183 rfl ?_)
 obtain ⟨w0,e0,hx,hs,z0,z1⟩:=lay2 h (.cells [.slice a (dig x).length c] 1) (.cells [.slice b (dig y).length d] 1)
 by_cases h1:(((dig x).length:Nat):Int)=(((dig y).length:Nat):Int)
 case neg =>
  by_cases h2:(((dig x).length:Nat):Int) < (((dig y).length:Nat):Int)
  ·have:x < y:=Ze6 Ya
   simp +decide only [go_sem,WR,WS,e0,z0,z1,h1,h2,this]
  ·have q:y < x:=Ze6 Ya
   have q1:¬ x < y:=Ya
   have q2:¬ x=y:=Ya
   simp +decide only [go_sem,WR,WS,e0,z0,z1,h1,h2,q1,q2]
 have hlen:(dig x).length=(dig y).length:=Ya
 have i2:IntKind.i64.wrap ((((dig x).length:Nat):Int) - 1)=(((dig x).length:Nat):Int) - 1:=wrap_i64 Ya Ya
 have s0:=s.ext hx
 have t0:=t.ext hx
 rw [← hlen] at t0
 have h1':(((dig y).length:Nat):Int)=(((dig x).length:Nat):Int):=Ya
 rw [← hlen] at z1 e0 ⊢
 simp +decide only [go_sem,WR,WS,e0,z0,z1,i2]
 clear e0
 refine Zah (α:=Nat) (fun k e w=>k≤(dig x).length∧e.size=50∧w=w0∧e.get 2= .pointer (some ⟨h.size,0,none⟩)∧e.get 3= .pointer (some ⟨h.size+1,0,none⟩)∧e.get 5= .int .i64 ((k:Int) - 1)∧(dig x).drop k=(dig y).drop k) (fun k=>k) (dig x).length ?_ ?_
 ·refine ⟨Nat.le_refl _,Yc,rfl,Yc,Yc,Yc,?_⟩
  rw [List.drop_of_length_le (Nat.le_refl _),List.drop_of_length_le Ya]
 ·rintro k e w ⟨hk,hsz,rfl,g2,g3,g5,hd⟩ next
  by_cases hk0:(0:Int)≤(k:Int) - 1
  case neg =>
   have:k=0:=by omega
   subst this
   have q:x=y:=Zq3 (by simpa using hd)
   have q1:¬ x < y:=Ya
   simp +decide only [go_sem,WR,WS,hsz,g2,g3,g5,hk0,q,Nat.lt_irrefl]
  have i4:(k:Int) - 1 < (((dig x).length:Nat):Int):=Ya
  have i5:((k:Int) - 1).toNat=k - 1:=Ya
  have i6:IntKind.i64.wrap ((k:Int) - 1 - 1)=((k - 1:Nat):Int) - 1:=Yd
  obtain ⟨p,hp⟩:∃ p,(dig x)[k - 1]? =some p:=⟨_,List.getElem?_eq_getElem Ya⟩
  obtain ⟨q,hq⟩:∃ q,(dig y)[k - 1]? =some q:=⟨_,List.getElem?_eq_getElem Ya⟩
  obtain ⟨b1,o1,cs1,rfl,hb1,hg1,hc1⟩:=s0.one (Za0 hp)
  obtain ⟨b2,o2,cs2,rfl,hb2,hg2,hc2⟩:=t0.one (Za0 hq)
  have hkk:k - 1+1=k:=Ya
  by_cases hpq:(p:Int)=(q:Int)
  ·have hpq':p=q:=by omega
   subst hpq'
   simp +decide only [go_sem,WR,WS,hsz,g2,g3,g5,z0,z1,hk0,i4,i5,Nat.mul_one,hg1,hg2,hc1,hc2,i6]
   refine next (k - 1) _ _ ⟨by omega,Yb,rfl,Yt,Y3,Yb,?_⟩ Ya
   rw [List.drop_eq_getElem_cons (show k - 1 < (dig x).length by omega),List.drop_eq_getElem_cons (show k - 1 < (dig y).length by omega),hkk,hd,(List.getElem?_eq_some_iff.1 hp).2,(List.getElem?_eq_some_iff.1 hq).2]
  ·by_cases hlt:(p:Int) < (q:Int)
   ·have hxy:x < y:=by
     have:=Zsm (Zap x) hp hq (by rw [hkk];exact hd) Ya
     rwa [ZaL,ZaL] at this
    simp +decide only [go_sem,WR,WS,hsz,g2,g3,g5,z0,z1,hk0,i4,i5,Nat.mul_one,hg1,hg2,hc1,hc2,hpq,hlt,hxy]
   ·have hxy:y < x:=by
     have:=Zsm (Zap y) hq hp (by rw [hkk];exact hd.symm) Ya
     rwa [ZaL,ZaL] at this
    have q1:¬ x < y:=Ya
    have q2:¬ x=y:=Ya
    simp +decide only [go_sem,WR,WS,hsz,g2,g3,g5,z0,z1,hk0,i4,i5,Nat.mul_one,hg1,hg2,hc1,hc2,hpq,hlt,q1,q2]
end Go.Proofs.YtachkofbmodnnaaGreat.N1
