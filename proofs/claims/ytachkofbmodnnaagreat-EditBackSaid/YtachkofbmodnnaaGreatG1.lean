/- Proved here: parts of the way to BEditBack (Im1); no condition beyond those that each theorem names. -/
import Derived.Calls
import Derived.Orders
import Derived.Laws.Tables
import Derived.Laws.Cover4
import Derived.Laws.Sem
import Derived.Laws.Cells
import Derived.Laws.BytesString
import Derived.Laws.MakeOwn
import Derived.Laws.Slices
import Derived.Laws.StructEq
import Derived.KernelRfl
namespace Go
theorem Ya {p:Prop} (h:p:=by omega):p:=h
theorem Yb {p:Prop} (h:p:=by simp +decide only [go_sem,hsz]):p:=h
theorem Yc {p:Prop} (h:p:=by simp +decide only [go_sem]):p:=h
theorem Yd {p:Prop} (h:p:=by rw [wrap_i64 (by omega) (by omega)];omega):p:=h
theorem Ye {p:Prop} (h:p:=by decide +kernel):p:=h
theorem Yf {p:Prop} (h:p:=by simp +decide only [go_sem,hsz,e0]):p:=h
theorem Yg {p:Prop} (h:p:=by simp +decide only [go_sem,hsz,e4]):p:=h
theorem Yh {p:Prop} (h:p:=by kernel_rfl):p:=h
theorem Yi {p:Prop} (h:p:=by simp +decide only [go_sem,hsz,e7]):p:=h
theorem Yj {p:Prop} (h:p:=by simp only;omega):p:=h
theorem Yk {p:Prop} (h:p:=by simp +decide only [go_sem,hsz,e1]):p:=h
theorem Yl {p:Prop} (h:p:=by simp;omega):p:=h
theorem Ym {p:Prop} (h:p:=by simp +decide only [go_sem,hsz,e6]):p:=h
theorem Yn {p:Prop} (h:p:=by rfl):p:=h
theorem Yo {p:Prop} (h:p:=by simp +decide only [go_sem,hsz,e5]):p:=h
theorem Yp {p:Prop} (h:p:=by simp):p:=h
theorem Yq {p:Prop} (h:p:=by simp +decide only [go_sem,hsz,e3]):p:=h
theorem Yr {p:Prop} (h:p:=by simp +decide only [go_sem,hsz,e9]):p:=h
theorem Ys {p:Prop} (h:p:=by simp +decide only [go_sem,hsz,e2]):p:=h
theorem Yt {p:Prop} (h:p:=by simp +decide only [go_sem,hsz,g2]):p:=h
theorem Yu {p:Prop} (h:p:=by simp +decide only [go_sem,hsz,e8]):p:=h
theorem Yv {p:Prop} (h:p:=by simp +decide only [go_sem,hsz,g6]):p:=h
theorem Yw {p:Prop} (h:p:=by simp +decide only [go_sem,hsz,e13]):p:=h
theorem Yx {p:Prop} (h:p:=by rw [ByteArray.size_append];omega):p:=h
theorem Yy {p:Prop} (h:p:=by simp +decide only [go_sem,hsz,e12]):p:=h
theorem Yz {p:Prop} (h:p:=by simp +decide only [go_sem,hsz,g1]):p:=h
theorem YA {p:Prop} (h:p:=by simp +decide only [go_sem,hsz,e10]):p:=h
theorem YB {p:Prop} (h:p:=by simp only [straight,KD];rfl):p:=h
theorem YC {p:Prop} (h:p:=by simp only [big];omega):p:=h
theorem YD {p:Prop} (h:p:=by simp +decide only [go_sem,hsz,e11]):p:=h
theorem YE {p:Prop} (h:p:=by simp +decide only [go_sem,hsz,e14]):p:=h
theorem YF {p:Prop} (h:p:=by simp [Zag]):p:=h
theorem YG {p:Prop} (h:p:=by simp +decide only [go_sem,hsz,e27]):p:=h
theorem YH {p:Prop} (h:p:=by simp only [List.length_append,List.length_nil];(repeat' split)<;>simp):p:=h
theorem YI {p:Prop} (h:p:=by decide):p:=h
theorem YJ {p:Prop} (h:p:=by rw [Zbf (by omega),← hA];rfl):p:=h
theorem YK {p:Prop} (h:p:=by rw [Zan];omega):p:=h
theorem YL {p:Prop} (h:p:=by rw [B_eq];omega):p:=h
theorem YM {p:Prop} (h:p:=by rw [wrap_i64 (x:=_ - ((b / 10 ^ i%10:Nat):Int)) (by omega) (by omega),wrap_i64 (by omega) (by omega)];omega):p:=h
theorem YN {p:Prop} (h:p:=by simp only [List.length_cons];omega):p:=h
theorem YO {p:Prop} (h:p:=by simpa using h):p:=h
theorem YP {p:Prop} (h:p:=by simp +decide only [go_sem,hsz,g4]):p:=h
theorem YQ {p:Prop} (h:p:=by rw [hg];simp):p:=h
theorem YR {p:Prop} (h:p:=by simp +decide only [go_sem,hs]):p:=h
theorem YS {p:Prop} (h:p:=by simp only [Zag];rw [if_pos (by omega),Int.toNat_natCast]):p:=h
theorem YT {p:Prop} (h:p:=by simp [big]):p:=h
theorem YU {p:Prop} (h:p:=by rw [hg];rfl):p:=h
theorem YV {p:Prop} (h:p:=by rw [← Nat.add_mul];congr 1;omega):p:=h
theorem YW {p:Prop} (h:p:=by simp +decide only [go_sem,hs0]):p:=h
theorem YX {p:Prop} (h:p:=by rw [wrap_i64 (by omega) (by omega)]):p:=h
theorem YY {p:Prop} (h:p:=by simp +decide only [go_sem,hsz,List.length_drop]):p:=h
theorem YZ {p:Prop} (h:p:=by rw [wrap_i64 (by omega) (by omega),hA,hn];simp):p:=h
theorem Y0 {p:Prop} (h:p:=by rw [IntKind.wrap_i64];omega):p:=h
theorem Y1 {p:Prop} (h:p:=by simp +decide only [go_sem,hsz,e21]):p:=h
theorem Y2 {p:Prop} (h:p:=by assumption):p:=h
theorem Y3 {p:Prop} (h:p:=by simp +decide only [go_sem,hsz,g3]):p:=h
theorem Y4 {p:Prop} (h:p:=by simp +decide only [go_sem,hsz,ct]):p:=h
theorem Y5 {p:Prop} (h:p:=by simp +decide only [go_sem,hsz,g7]):p:=h
theorem Y6 {p:Prop} (h:p:=by simp [hx]):p:=h
theorem Y7 {p:Prop} (h:p:=by simp [Zac.add]):p:=h
theorem Y8 {p:Prop} (h:p:=by simpa using n1 (by omega)):p:=h
theorem Y9 {p:Prop} (h:p:=by simp [byteCells];omega):p:=h
theorem Yaa {p:Prop} (h:p:=by rw [wrap_u8 (by omega) (by omega)];omega):p:=h
theorem Yab {p:Prop} (h:p:=by simp [Builtin.len_,ht0,Zab ht1,goInt]):p:=h
theorem Yac {p:Prop} (h:p:=by grind):p:=h
theorem Yad {p:Prop} (h:p:=by intro i x y hx;simp at hx):p:=h
theorem Yae {p:Prop} (h:p:=by simpa using hi):p:=h
theorem Yaf {p:Prop} (h:p:=by simpa using e):p:=h
end Go
set_option linter.unusedSimpArgs false
set_option linter.unusedVariables false
namespace Go.Im
inductive Blk where
 | cells (cs:List Value) (esz:Nat)
 | fixed (cs:List Value) (esz:Nat)
 | map (es:List MapEntry) (clock:Nat)
 | siter (s:ByteArray) (pos:Nat)
 | dead
inductive Tree (α:Type) where
 | leaf
 | node (v:Option α) (l r:Tree α)
def Tree.get {α:Type}:Tree α→Nat→Option α
 | .leaf,_=>none
 | .node v l r,k=>match k with
   | 0=>v
   | k+1=>if k%2=0 then l.get (k / 2) else r.get (k / 2)
def Tree.set {α:Type}:Nat→Tree α→Nat→α→Tree α
 | 0,t,_,_=>t
 | f+1,.leaf,k,x=>match k with
   | 0=> .node (some x) .leaf .leaf
   | k+1=>if k%2=0 then .node none (Tree.set f .leaf (k / 2) x) .leaf else .node none .leaf (Tree.set f .leaf (k / 2) x)
 | f+1,.node v l r,k,x=>match k with
   | 0=> .node (some x) l r
   | k+1=>if k%2=0 then .node v (Tree.set f l (k / 2) x) r else .node v l (Tree.set f r (k / 2) x)
def Blk.read:Blk→Blk
 | .fixed cs esz=> .cells cs esz
 | x=>x
def Blk.isFixed:Blk→Bool
 | .fixed _ _=>true
 | _=>false
structure Heap where
 size:Nat
 tree:Tree Blk
def Heap.get (h:Heap) (b:Nat):Blk:=match h.tree.get b with
 | some x=>x
 | none=> .dead
def Heap.look (h:Heap) (b:Nat):Blk:=(h.get b).read
def Heap.set (h:Heap) (b:Nat) (x:Blk):Heap:={ h with tree:=h.tree.set (b+1) b x }
def Heap.push (h:Heap) (x:Blk):Heap:={ size:=h.size+1,tree:=h.tree.set (h.size+1) h.size x }
structure Env where
 size:Nat
 tree:Tree Value
def Env.get (e:Env) (t:Nat):Value:=match e.tree.get t with
 | some v=>v
 | none=>undef
def Env.put (e:Env) (d:Option Tmp) (v:Value):Env:=match d with
 | some t=>if t < e.size then { e with tree:=e.tree.set (t+1) t v } else e
 | none=>e
def bad:Value:= .chan none
def atomic:Value→Bool
 | .bool _ | .int _ _ | .float _ _ | .string _ | .pointer none | .slice none 0 0 | .map none | .nilFunc | .nilIface=>true
 | _=>false
def plain:Value→Bool
 | .agg cs | .tuple cs=>cs.toList.all atomic
 | v=>atomic v
def Env.eval (e:Env):Operand→Value
 | .tmp t=>e.get t
 | .const v=>if plain v then v else bad
 | .global _=>bad
 | .func f=> .func (.func f) #[] #[]
def Env.fill:List Value→Nat→Tree Value→Tree Value
 | [],_,t=>t
 | v::vs,i,t=>Env.fill vs (i+1) (t.set (i+1) i v)
def Env.start (n:Nat) (args:List Value):Env:={ size:=max n args.length,tree:=Env.fill args 0 .leaf }
def big:Nat:=4611686018427387904
def Zal:Value→Bool
 | .agg _ | .tuple _ | .chan _=>false
 | _=>true
def Zi8 {α:Type} (P:Program):Sem α→Option α
 | .pure a=>some a
 | .program k=>Zi8 P (k P)
 | _=>none
inductive Out where
 | val (v:Value)
 | skip
 | enter (f:FuncId) (args:Array Value)
def Zaq (P:Program) (t:TypeId):Option Nat:=(P.info? t).map (·.size)
def tagg (P:Program) (t:TypeId):Option Bool:=(P.underlying t).map fun d=>match d with | .struct _ | .array _ _=>true | _=>false
def Zcb (P:Program) (t:TypeId):Option Value:=(P.info? t).bind (·.zero)
def Zej (P:Program) (h:Heap) (t:TypeId) (a:Value):Option Value :=
 match a with
 | .pointer (some ⟨b,o,none⟩)=>match h.look b with
   | .cells cs _=>match tagg P t with
     | some true=>match Zaq P t with
       | some n=>if o+n≤cs.length then some (.agg ((cs.drop o).take n).toArray) else none
       | none=>none
     | some false=>cs[o]?
     | none=>none
   | _=>none
 | _=>none
def splice (cs:List Value) (o:Nat) (vs:List Value):List Value:=cs.take o++vs++cs.drop (o+vs.length)
def Zcq (P:Program) (low:Nat) (h:Heap) (t:TypeId) (a v:Value):Option Heap :=
 match a with
 | .pointer (some ⟨b,o,none⟩)=>match h.get b with
   | .cells cs esz =>
     if low≤b∧Zaq P t=some v.cells.size∧o+v.cells.size≤cs.length∧v.cells.toList.all Zal=true then some (h.set b (.cells (splice cs o v.cells.toList) esz)) else none
   | _=>none
 | _=>none
def Zak (h:Heap) (size:Nat) (v:Value):Option (List Value) :=
 match v with
 | .slice none 0 0=>some []
 | .slice (some ⟨b,o,none⟩) n _=>match h.look b with
   | .cells cs esz=>if esz=size∧o+n*size≤cs.length then some ((cs.drop o).take (n*size)) else if n=0 then some [] else none
   | _=>if n=0 then some [] else none
 | _=>none
def Zlf (_P:Program) (h:Heap) (i:TypeInfo) (xt:TypeDesc) (x:Value):Option (Nat × List Value) :=
 match xt,x with
 | .string,.string t=>if i.size=1 then some (t.size,t.data.toList.map fun b=> .int .u8 b.toNat) else none
 | .int _,.int _ n=>if 0≤n∧n < 281474976710656∧n*i.bytes≤281474976710656 then
    match i.zero with
    | some z=>if z.cells.toList.all atomic=true∧z.cells.size=i.size then some (n.toNat,(List.replicate n.toNat z.cells.toList).flatten) else none
    | none=>none
   else none
 | .slice _,.slice a n c=>match Zak h i.size (.slice a n c) with
   | some l=>some (n,l)
   | none=>none
 | _,_=>none
def iput (low:Nat) (h:Heap) (size:Nat) (s:Value) (k:Nat) (new:List Value):Option (Value × Heap) :=
 match s with
 | .slice none n cap=>if n=0∧cap=0 then some (.slice (some ⟨h.size,0,none⟩) k big,h.push (.cells new size)) else none
 | .slice (some ⟨b,o,none⟩) n cap=>match h.get b with
   | .cells cs esz =>
     if esz≠size∨o+n*size > cs.length then none else
     if cap < big then
      if n+k≤cap then
       if low≤b∧o+(n+k)*size≤cs.length then some (.slice (some ⟨b,o,none⟩) (n+k) cap,h.set b (.cells (splice cs (o+n*size) new) esz)) else none
      else some (.slice (some ⟨h.size,0,none⟩) (n+k) big,h.push (.cells ((cs.drop o).take (n*size)++new) size))
     else if cap=big∧low≤b then
      if o+(n+k)*size≤cs.length then some (.slice (some ⟨b,o,none⟩) (n+k) big,h.set b (.cells (splice cs (o+n*size) new) esz))
      else some (.slice (some ⟨h.size,0,none⟩) (n+k) big,(h.set b .dead).push (.cells ((cs.drop o).take (n*size)++new) size))
     else none
   | _=>none
 | _=>none
def ZaC (P:Program) (low:Nat) (h:Heap) (argTypes:Array TypeId) (s x:Value):Option (Value × Heap) :=
 match argTypes[0]?.bind P.underlying,argTypes[1]?.bind P.underlying with
 | some (.slice e),some xt=>match P.info? e with
   | some i=>match Zlf P h i xt x,s with
     | some (k,new),.slice base n cap =>
       if i.size=0∨140737488355328 < 2*(n+k)*i.bytes∨4611686018427387904 < n+k∨(i.zero.map fun z=>z.cells.size)≠some i.size then none else
       if k=0 then some (.slice base n cap,h) else iput low h i.size (.slice base n cap) k new
     | _,_=>none
   | none=>none
 | _,_=>none
def Zag (d:Nat):Option Value→Option Nat
 | none=>some d
 | some (.int _ i)=>if 0≤i then some i.toNat else none
 | some _=>none
def Zb4 (n cap:Nat) (lo hi mx:Option Value):Option (Nat × Nat × Nat) :=
 match Zag 0 lo,Zag n hi,Zag cap mx with
 | some l,some h,some m=>if l≤h∧h≤m∧m≤cap∧(mx.isSome=true→hi.isSome=true) then some (l,h,m) else none
 | _,_,_=>none
def ZeM (P:Program) (hp:Heap) (t:TypeId) (x:Value) (lo hi mx:Option Value):Option Value :=
 match P.underlying t,x with
 | some .string,.string s=>match mx,Zb4 s.size s.size lo hi none with
   | none,some (l,h,_)=>some (.string (s.extract l h))
   | _,_=>none
 | some (.slice e),.slice a n cap=>match Zaq P e with
   | some size =>
     if cap < big then match Zb4 n cap lo hi mx with
      | some (l,h,m)=>if cap=0 then some (.slice a 0 0) else match a with
        | some ⟨b,o,none⟩=>match hp.look b with
          | .cells _ esz=>if esz=size then some (.slice (some ⟨b,if m=l then o else o+l*size,none⟩) (h - l) (m - l)) else none
          | _=>none
        | _=>none
      | none=>none
     else if cap=big then match a with
      | some ⟨b,o,none⟩=>match hp.look b with
        | .cells cs esz=>if esz≠size then none else match Zb4 n ((cs.length - o) / size) lo hi mx with
          | some (l,h,m)=>match mx with
            | none=>some (.slice (some ⟨b,o+l*size,none⟩) (h - l) big)
            | some _=>if m < big then some (.slice (some ⟨b,if m=l then o else o+l*size,none⟩) (h - l) (m - l)) else none
          | none=>none
        | _=>none
      | _=>none
     else none
   | none=>none
 | _,_=>none
def Ziq (P:Program) (low:Nat) (h:Heap) (t:TypeId) (a:Option Addr) (n c:Nat):Option (Value × Heap) :=
 match P.underlying t,a with
 | some (.slice e),some ⟨b,o,none⟩=>match P.underlying e,h.get b with
   | some (.int .u8),.cells cs esz=>if low≤b∧0 < n∧esz=1 then some (.slice (some ⟨b,o,none⟩) n c,h.set b (.cells cs esz)) else none
   | _,_=>none
 | _,_=>none
def Zdp (k:IntKind):List Value→Option (List Int)
 | []=>some []
 | .int k' n::l=>if k'=k then match Zdp k l with
   | some ns=>some (n::ns)
   | none=>none else none
 | _::_=>none
def ZaF (P:Program) (h:Heap) (src dst:TypeId) (x:Value):Option (Value × Heap) :=
 match P.underlying src,P.underlying dst,x with
 | some (.int _),some (.int k),.int _ n=>some (.int k (k.wrap n),h)
 | some (.int _),some .string,.int _ n=>some (.string (Utf8.encode n),h)
 | some .string,some .string,.string s=>some (.string s,h)
 | some .string,some (.slice e),.string s=>match P.underlying e,Zaq P e with
   | some (.int .u8),some 1=>some (.slice (some ⟨h.size,0,none⟩) s.size big,h.push (.cells (s.data.toList.map fun b=> .int .u8 b.toNat) 1))
   | some (.int .i32),some 1 =>
     let es:=(Conv.runesFrom s s.size 0 #[]).toList
     some (.slice (some ⟨h.size,0,none⟩) es.length big,h.push (.cells es 1))
   | _,_=>none
 | some (.slice e),some .string,.slice a n c=>match P.underlying e,Zak h 1 (.slice a n c) with
   | some (.int .u8),some cs=>match Zdp .u8 cs with
     | some ns=>some (.string ⟨(ns.map fun n=>UInt8.ofNat n.toNat).toArray⟩,h)
     | none=>none
   | some (.int .i32),some cs=>match Zdp .i32 cs with
     | some ns=>some (.string (runesBytes ns),h)
     | none=>none
   | _,_=>none
 | _,_,_=>none
def ZdH (P:Program) (low:Nat) (h:Heap) (src dst:TypeId) (x:Value):Option (Value × Heap) :=
 match x with
 | .slice a n c=>if src=dst then Ziq P low h src a n c else ZaF P h src dst (.slice a n c)
 | x=>ZaF P h src dst x
def ibin (op:BinOp) (x y:Value):Option Value :=
 match op,x,y with
 | .shl,.int k a,.int _ b=>if b < 0 then none else some (.int k (k.wrap (a*2 ^ (min b.toNat k.bits))))
 | .shr,.int k a,.int _ b=>if b < 0 then none else some (.int k (a.fdiv (2 ^ (min b.toNat k.bits))))
 | .add,.int k a,.int k' b=>if k=k' then some (.int k (k.wrap (a+b))) else none
 | .sub,.int k a,.int k' b=>if k=k' then some (.int k (k.wrap (a - b))) else none
 | .mul,.int k a,.int k' b=>if k=k' then some (.int k (k.wrap (a*b))) else none
 | .quo,.int k a,.int k' b=>if k=k'∧b≠0 then some (.int k (k.wrap (a.tdiv b))) else none
 | .rem,.int k a,.int k' b=>if k=k'∧b≠0 then some (.int k (a.tmod b)) else none
 | .and,.int k a,.int k' b | .or,.int k a,.int k' b | .xor,.int k a,.int k' b | .andNot,.int k a,.int k' b =>
   if k=k' then match Op.intBits op k a b with | .pure v=>some v | _=>none else none
 | .eql,.int k a,.int k' b=>if k=k' then some (.bool (a == b)) else none
 | .neq,.int k a,.int k' b=>if k=k' then some (.bool (a != b)) else none
 | .lss,.int k a,.int k' b=>if k=k' then some (.bool (a < b)) else none
 | .leq,.int k a,.int k' b=>if k=k' then some (.bool (a≤b)) else none
 | .gtr,.int k a,.int k' b=>if k=k' then some (.bool (a > b)) else none
 | .geq,.int k a,.int k' b=>if k=k' then some (.bool (a ≥ b)) else none
 | .add,.string a,.string b=>if a.size+b.size≤9223372036854775807 then some (.string (a++b)) else none
 | .eql,.string a,.string b=>some (.bool (a.toList == b.toList))
 | .neq,.string a,.string b=>some (.bool (!(a.toList == b.toList)))
 | .lss,.string a,.string b=>some (.bool (Op.bytesLess a.toList b.toList))
 | .leq,.string a,.string b=>some (.bool (Op.bytesLess a.toList b.toList || a.toList == b.toList))
 | .gtr,.string a,.string b=>some (.bool (!(Op.bytesLess a.toList b.toList || a.toList == b.toList)))
 | .geq,.string a,.string b=>some (.bool (!Op.bytesLess a.toList b.toList))
 | _,_,_=>none
def ieqv (t:TypeDesc) (x y:Value):Option Bool :=
 match t,x,y with
 | .bool,.bool a,.bool b=>some (a == b)
 | .pointer _,.pointer none,.pointer b=>some b.isNone
 | .pointer _,.pointer _,.pointer none=>some false
 | .slice _,.slice none _ _,.slice b _ _=>some b.isNone
 | .slice _,.slice _ _ _,.slice none _ _=>some false
 | .map _ _,.map none,.map b=>some b.isNone
 | .map _ _,.map _,.map none=>some false
 | .func _ _ _,.nilFunc,.nilFunc=>some true
 | .func _ _ _,.nilFunc,.func _ _ _ | .func _ _ _,.func _ _ _,.nilFunc=>some false
 | _,_,_=>none
def Zs1 (P : Program) (f : Field) : Option (TypeDesc × Nat) := if f.name = "_" then none else match P.underlying f.type with
 | some .bool=>some (.bool,f.offset)
 | some (.int k)=>some (.int k,f.offset)
 | some .string=>some (.string,f.offset)
 | _=>none
def Zko (P:Program):List Field→Option (List (TypeDesc × Nat))
 | []=>some []
 | f::fs=>match Zs1 P f,Zko P fs with
   | some x,some l=>some (x::l)
   | _,_=>none
def Zs0 (P:Program) (t:TypeId):Option (List (TypeDesc × Nat)):=match P.underlying t with
 | some (.struct fs)=>if P.stoodInHeld t=true∨P.eqGuardType P.depth t=true then none else Zko P fs.toList
 | _=>none
def feq (d:TypeDesc) (a b:Option Value):Option Bool:=match d,a,b with
 | .bool,some (.bool a),some (.bool b)=>some (a == b)
 | .int _,some (.int k a),some (.int k' b)=>if k=k' then some (a == b) else none
 | .string,some (.string a),some (.string b)=>some (a.toList == b.toList)
 | _,_,_=>none
def andO (a b:Option Bool):Option Bool:=match a,b with
 | some a,some b=>some (a && b)
 | _,_=>none
def ZcK (xs ys:Array Value):List (TypeDesc × Nat)→Option Bool
 | []=>some true
 | (d,o)::l=>andO (feq d xs[o]? ys[o]?) (ZcK xs ys l)
def Zhp (P:Program) (t:TypeId) (x y:Value):Option Bool:=match x,y with
 | .agg xs,.agg ys=>match Zs0 P t with
   | some l=>ZcK xs ys l
   | none=>none
 | _,_=>none
def Zm8 (op:BinOp) (b:Bool):Option Value:=match op with
 | .eql=>some (.bool b)
 | .neq=>some (.bool (!b))
 | _=>none
def Zaj (P:Program) (op:BinOp) (t:TypeId) (x y:Value):Option Value :=
 match ibin op x y with
 | some v=>some v
 | none=>match P.underlying t with
   | none=>none
   | some d=>match ieqv d x y with
     | none=>match Zhp P t x y with
       | none=>none
       | some b=>Zm8 op b
     | some b=>match op with
       | .eql=>some (.bool b)
       | .neq=>some (.bool (!b))
       | _=>none
def Zjn (P:Program) (t:TypeId) (cs:Array Value) (off:Nat):Option Value :=
 match tagg P t,Zaq P t with
 | some true,some n=>some (.agg (cs.extract off (off+n)))
 | some false,_=>cs[off]?
 | _,_=>none
def Zc0 (P:Program) (t:TypeId) (f:Nat):Option Field :=
 match P.underlying t with
 | some (.struct fs)=>fs[f]?
 | _=>none
def numOf (v:Value):Option Int:=match v with | .int _ n=>some n | _=>none
def Zf8 (P:Program) (sz:Nat) (t:TypeId) (l c:Value):Option (Value × Option Blk) :=
 match P.underlying t,numOf l,numOf c with
 | some (.slice e),some l,some c=>match P.info? e with
   | some i=>match i.zero with
     | some z =>
       if 0≤l∧l≤c∧c*i.bytes≤140737488355328∧c < 281474976710656∧0 < i.size∧z.cells.size=i.size∧z.cells.toList.all atomic=true then
        some (.slice (some ⟨sz,0,none⟩) l.toNat c.toNat,some (.cells ((List.replicate c.toNat z.cells.toList).flatten) i.size))
       else none
     | none=>none
   | none=>none
 | _,_,_=>none
def ZbY (mx:Bool) (k:IntKind):Int→List Value→Option Value
 | x,[]=>some (.int k x)
 | x,.int k' y::rest=>if k=k' then ZbY mx k (if mx then (if y > x then y else x) else (if y < x then y else x)) rest else none
 | _,_=>none
def ZbZ (mx:Bool):List Value→Option Value
 | .int k x::rest=>ZbY mx k x rest
 | _=>none
def Zf3:TypeDesc→Bool
 | .int _ | .string | .bool=>true
 | _=>false
def mapOf (P:Program) (t:TypeId):Option (TypeDesc × TypeId):=match P.underlying t with
 | some (.map k e)=>match P.underlying k with
   | some d=>if Zf3 d then some (d,e) else none
   | none=>none
 | _=>none
def imap (h:Heap):Value→Option (List MapEntry)
 | .map none=>some []
 | .map (some r)=>match h.get r with
   | .map es _=>some es
   | _=>none
 | _=>none
def Zpo (z:Option Value) (ok:Bool):Option (Option (Nat × Value))→Option Value
 | some (some (_,v))=>some (if ok then .tuple #[v,.bool true] else v)
 | some none=>match z with
   | some z=>if plain z then some (if ok then .tuple #[z,.bool false] else z) else none
   | none=>none
 | none=>none
def Zhw (P:Program) (h:Heap) (t:TypeId) (x k:Value) (ok:Bool):Option Value :=
 match mapOf P t,imap h x with
 | some (d,e),some es=>Zpo (Zcb P e) ok (Instr.findNow d k es 0)
 | _,_=>none
def Zsz (es:List MapEntry) (clock:Nat) (k v:Value):Option (Option (Nat × Value))→Option Blk
 | some (some (i,_))=>some (.map (es.modify i fun e=>{ e with key:=k,val:=v }) clock)
 | some none=>some (.map (es++[{ key:=k,val:=v,born:=clock }]) (clock+1))
 | none=>none
def ZcI (P:Program) (low:Nat) (h:Heap) (t:TypeId) (m k v:Value):Option Heap :=
 match mapOf P t,m with
 | some (d,_),.map (some r)=>match h.get r with
   | .map es clock=>if low≤r then match Zsz es clock k v (Instr.findNow d k es 0) with
      | some x=>some (h.set r x)
      | none=>none else none
   | _=>none
 | _,_=>none
def ZsO (es:List MapEntry) (clock:Nat):Option (Option (Nat × Value))→Option Blk
 | some (some (i,_))=>some (.map (es.eraseIdx i) clock)
 | some none=>some (.map es clock)
 | none=>none
def ZcZ (P:Program) (low:Nat) (h:Heap) (t:TypeId) (m k:Value):Option Heap :=
 match mapOf P t,m with
 | some _,.map none=>some h
 | some (d,_),.map (some r)=>match h.get r with
   | .map es clock=>if low≤r then match ZsO es clock (Instr.findNow d k es 0) with
      | some x=>some (h.set r x)
      | none=>none else none
   | _=>none
 | _,_=>none
def Zht (P:Program) (t:TypeId) (name:String):Option FuncId :=
 match P.info? t with
 | some i=>match i.methods.find? (·.name == name) with
   | some m=>match m.path.toList,m.func,P.underlying t with
     | [],some (f,true),some (.pointer _)=>some f
     | [],some (_,false),some (.pointer _)=>none
     | [],some (f,false),some _=>some f
     | _,_,_=>none
   | none=>none
 | none=>none
def Op.touches:Op→Bool
 | .move _ | .assign _ | .pick .. | .alloc _ | .box .. | .build .. | .buildSlice .. | .nilCheck _ | .binOp .. | .unOp .. | .makeInterface .. | .makeFunc .. | .makeSlice .. | .fieldAddr .. | .field ..
 | .indexAddr .. | .index .. | .range .. | .extract .. =>false
 | .call c=>match c.callee with
   | .builtin .len | .builtin .max | .builtin .min=>false
   | _=>true
 | _=>true
def Zbe (P:Program) (b:Builtin) (ts:Array TypeId) (args:List Value):Option Value :=
 match b,args with
 | .len,[x]=>match ts[0]?.bind P.underlying,x with
   | some .string,.string s=>some (.int .i64 s.size)
   | some (.slice _),.slice _ n _=>some (.int .i64 n)
   | some (.array n _),_=>some (.int .i64 n)
   | _,_=>none
 | .max,l=>ZbZ true l
 | .min,l=>ZbZ false l
 | _,_=>none
def ZaG (P:Program) (low:Nat) (h:Heap) (b:Builtin) (ts:Array TypeId) (args:List Value):Option (Value × Heap) :=
 match b,args with
 | .append,[s,x]=>if ts.size=2 then ZaC P low h ts s x else none
 | .copy,[.slice (some ⟨b,o,none⟩) n _,x]=>match ts[0]?.bind P.underlying,h.get b with
   | some (.slice e),.cells cs esz=>match Zaq P e with
     | some size=>match x,Zak h size x with
       | .slice _ _ _,some new=>if low≤b∧esz=size∧0 < size∧o+n*size≤cs.length then
          let k:=min (new.length / size) n
          some (.int .i64 k,h.set b (.cells (splice cs o (new.take (k*size))) esz)) else none
       | _,_=>none
     | none=>none
   | _,_=>none
 | .cap,[.slice _ _ c]=>match ts[0]?.bind P.underlying with
   | some (.slice _)=>if c < big then some (.int .i64 c,h) else none
   | _=>none
 | .clear,[.slice (some ⟨b,o,none⟩) n _]=>match ts[0]?.bind P.underlying,h.get b with
   | some (.slice e),.cells cs esz=>match Zaq P e,Zcb P e with
     | some size,some z=>if low≤b∧esz=size∧0 < n∧0 < size∧z.cells.size=size∧z.cells.toList.all atomic=true∧o+n*size≤cs.length then
        some (.tuple #[],h.set b (.cells (splice cs o (List.replicate n z.cells.toList).flatten) esz)) else none
     | _,_=>none
   | _,_=>none
 | .delete,[m,k]=>match ts[0]? with
   | some t=>match ZcZ P low h t m k with
     | some h=>some (.tuple #[],h)
     | none=>none
   | none=>none
 | _,_=>none
def iop0 (P:Program) (sz:Nat) (op:Op) (ρ:Operand→Value):Option (Value × Option Blk) :=
 let v (r:Option Value):Option (Value × Option Blk):=match r with | some x=>some (x,none) | none=>none
 match op with
 | .move x | .assign x=>some (ρ x,none)
 | .pick c a b=>match ρ c with
   | .bool t=>some (if t then ρ a else ρ b,none)
   | _=>none
 | .alloc e=>match Zcb P e,Zaq P e with
   | some z,some n=>if 0 < n∧z.cells.size=n∧z.cells.toList.all atomic=true then some (.pointer (some ⟨sz,0,none⟩),some (.cells z.cells.toList n)) else none
   | _,_=>none
 | .box e x=>match Zaq P e with
   | some n=>if 0 < n∧(ρ x).cells.size=n∧(ρ x).cells.toList.all Zal=true then some (.pointer (some ⟨sz,0,none⟩),some (.cells (ρ x).cells.toList n)) else none
   | none=>none
 | .build t parts=>match Zcb P t with
   | some z=>if z.cells.toList.all atomic=true∧parts.toList.all (fun p=>(ρ p.2).cells.toList.all Zal)=true then
      v ((P.built t (parts.map fun (i,x)=>(i,ρ x)).toList).map .agg) else none
   | none=>none
 | .buildSlice t len parts=>match P.underlying t with
   | some (.slice e)=>match P.info? e with
     | some i=>match i.zero with
       | some z=>if len*i.size≤16777216∧0 < i.size∧z.cells.size=i.size∧z.cells.toList.all atomic=true∧parts.toList.all (fun p=>(ρ p.2).cells.toList.all Zal)=true then
          match Instr.fill (fun k=>some (k*i.size,i.size)) (List.replicate len z.cells.toList).flatten.toArray (parts.map fun (k,x)=>(k,ρ x)).toList with
          | some cells=>if cells.toList.all Zal=true then some (.slice (some ⟨sz,0,none⟩) len len,some (.cells cells.toList i.size)) else none
          | none=>none
         else none
       | none=>none
     | none=>none
   | _=>none
 | .nilCheck x=>match ρ x with
   | .pointer (some a)=>some (.pointer (some a),none)
   | .func (.func f) a c=>some (.func (.func f) a c,none)
   | _=>none
 | .binOp op t x y _=>v (Zaj P op t (ρ x) (ρ y))
 | .unOp op _ x=>match op,ρ x with
   | .not,.bool b=>some (.bool !b,none)
   | .neg,.int k n=>some (.int k (k.wrap (0 - n)),none)
   | .xor,.int k n=>v (Zi8 P (Op.intBits .xor k (if k.signed then -1 else k.max) n))
   | _,_=>none
 | .makeInterface t x=>match P.underlying t with
   | some (.interface _) | none=>none
   | _=>some (.iface t (ρ x),none)
 | .makeFunc fn first captured=>some (.func fn (first.map ρ) (captured.map ρ),none)
 | .makeSlice t l c=>Zf8 P sz t (ρ l) (ρ c)
 | .fieldAddr s x f=>match Zc0 P s f,ρ x with
   | some fd,.pointer (some ⟨b,o,none⟩)=>match Zaq P fd.type with
     | some n=>if n=0 then none else some (.pointer (some ⟨b,o+fd.offset,none⟩),none)
     | none=>none
   | _,_=>none
 | .field t x f=>match Zc0 P t f,ρ x with
   | some fd,.agg cs=>v (Zjn P fd.type cs fd.offset)
   | _,_=>none
 | .indexAddr t x ix=>match P.underlying t,ρ x,numOf (ρ ix) with
   | some (.slice e),.slice (some ⟨b,o,none⟩) n _,some i=>match Zaq P e with
     | some size=>if 0≤i∧i < n then some (.pointer (some ⟨b,o+i.toNat*size,none⟩),none) else none
     | none=>none
   | some (.array n e),.pointer (some ⟨b,o,none⟩),some i=>match Zaq P e with
     | some size=>if 0≤i∧i < n then some (.pointer (some ⟨b,o+i.toNat*size,none⟩),none) else none
     | none=>none
   | _,_,_=>none
 | .index t x ix=>match P.underlying t,ρ x,numOf (ρ ix) with
   | some .string,.string s,some i=>if 0≤i then match s.data.toList[i.toNat]? with
     | some b=>some (.int .u8 b.toNat,none)
     | none=>none else none
   | some (.array n e),.agg cs,some i=>match Zaq P e with
     | some size=>if 0≤i∧i < n then v (Zjn P e cs (i.toNat*size)) else none
     | none=>none
   | _,_,_=>none
 | .range t x=>match P.underlying t,ρ x with
   | some .string,.string s=>some (.pointer (some ⟨sz,0,none⟩),some (.siter s 0))
   | _,_=>none
 | .extract t ix=>match ρ t with
   | .tuple vs=>v vs[ix]?
   | _=>none
 | .call c=>match c.callee with
   | .builtin b=>v (Zbe P b c.argTypes (c.args.toList.map ρ))
   | _=>none
 | _=>none
def iop1 (P:Program) (low:Nat) (op:Op) (ρ:Operand→Value) (h:Heap):Option (Out × Heap) :=
 let v (r:Option Value):Option (Out × Heap):=match r with | some x=>some (.val x,h) | none=>none
 let vh (r:Option (Value × Heap)):Option (Out × Heap):=match r with | some (x,h)=>some (.val x,h) | none=>none
 match op with
 | .load t a=>v (Zej P h t (ρ a))
 | .store t a x=>match Zcq P low h t (ρ a) (ρ x) with
   | some h=>some (.skip,h)
   | none=>none
 | .convert src dst x=>vh (ZdH P low h src dst (ρ x))
 | .slice t x lo hi mx=>v (ZeM P h t (ρ x) (lo.map ρ) (hi.map ρ) (mx.map ρ))
 | .next it true=>match ρ it with
   | .pointer (some ⟨r,0,none⟩)=>match h.get r with
     | .siter s pos=>if low≤r then
        if pos < s.size then
         let (c,wd):=Utf8.decode s pos
         some (.val (.tuple #[.bool true,.int .i64 pos,.int .i32 c]),h.set r (.siter s (pos+wd)))
        else some (.val (.tuple #[.bool false]),h)
       else none
     | _=>none
   | _=>none
 | .call c=>match c.callee with
   | .value f=>match ρ f with
     | .func (.func g) first captured=>some (.enter g (first++c.args.map ρ++captured),h)
     | _=>none
   | .invoke recv name=>match ρ recv with
     | .iface t x=>match Zht P t name with
       | some f=>some (.enter f (#[x]++c.args.map ρ),h)
       | none=>none
     | _=>none
   | .builtin b=>vh (ZaG P low h b c.argTypes (c.args.toList.map ρ))
 | .lookup t x k ok=>v (Zhw P h t (ρ x) (ρ k) ok)
 | .mapUpdate t m k x=>match ZcI P low h t (ρ m) (ρ k) (ρ x) with
   | some h=>some (.skip,h)
   | none=>none
 | .makeMap _ none=>some (.val (.map (some h.size)),h.push (.map [] 0))
 | _=>none
def iop (P:Program) (low:Nat) (o:Oper) (ρ:Operand→Value) (h:Heap):Option (Out × Heap) :=
 if Op.touches o.op then iop1 P low o.op ρ h else match iop0 P h.size o.op ρ with
 | some (v,none)=>some (.val v,h)
 | some (v,some x)=>some (.val v,h.push x)
 | none=>none
inductive Ex where
 | normal
 | ret
 | exit (id:Nat)
def ZaR (ops:Array Oper) (o:Oper) (e:Env):Option Bool :=
 match o.guard with
 | none=>some true
 | some (j,want)=>match (ops[j]?).bind (·.dst) with
   | none=>some false
   | some d=>match e.get d with
     | .bool b=>some (b == want)
     | .tuple _=>some false
     | _=>none
def ZdG (P:Program) (e:Env) (h:Heap):ResultVar→Option Value
 | .tmp t=>some (e.get t)
 | .cell a t=>Zej P h t (e.get a)
def ZaP (P:Program) (e:Env) (h:Heap):List ResultVar→Option (List Value)
 | []=>some []
 | r::rs=>match ZdG P e h r,ZaP P e h rs with
   | some v,some vs=>some (v::vs)
   | _,_=>none
def Zdj (P:Program) (fn:Func) (e:Env) (h:Heap):Option Value :=
 match ZaP P e h fn.results.toList with
 | some [v]=>some v
 | some vs=>some (.tuple vs.toArray)
 | none=>none
def ZeC (ops:Array Oper) (s:Nat) (o:Oper) (e:Env):Option (List Nat) :=
 match ZaR ops o e with
 | none=>none
 | some false=>match o.op with
   | .load .. | .slice .. =>some []
   | .convert s1 d1 _=>if s1=d1 then none else some []
   | _=>none
 | some true=>match o.op with
   | .load _ a=>match e.eval a with
     | .pointer (some ⟨b,_,none⟩)=>if b < s then some [b] else none
     | _=>none
   | .convert s1 d1 x=>if s1=d1 then none else match e.eval x with
     | .int _ _=>some []
     | _=>none
   | .slice _ x _ _ _=>match e.eval x with
     | .string _=>some []
     | .slice (some ⟨b,_,none⟩) _ _=>if b < s then some [b] else none
     | _=>none
   | _=>none
def Zew (ops:Array Oper) (o:Oper) (e:Env):Option (List Nat) :=
 match ZaR ops o e with
 | none=>none
 | some false=>match o.op with
   | .store .. =>some []
   | .call c=>match c.callee with
     | .builtin .append=>some []
     | _=>none
   | _=>none
 | some true=>match o.op with
   | .store _ a _=>match e.eval a with
     | .pointer (some ⟨b,_,none⟩)=>some [b]
     | _=>none
   | .call c=>match c.callee with
     | .builtin .append=>match c.args.toList with
       | x::_=>match e.eval x with
         | .slice none _ _=>some []
         | .slice (some ⟨b,_,none⟩) _ _=>some [b]
         | _=>none
       | _=>none
     | _=>none
   | _=>none
def Zoi (o:Oper) (e:Env):Option (List Nat) :=
 match o.op with
 | .alloc _ | .box .. | .buildSlice .. | .makeSlice .. | .range .. =>match o.dst with
   | some d=>if d < e.size then match e.get d with
     | .pointer (some ⟨b,_,none⟩)=>some [b]
     | .slice (some ⟨b,_,none⟩) _ _=>some [b]
     | .tuple _=>some []
     | _=>none else none
   | none=>none
 | _=>none
def differ (a b:List Nat):Bool:=a.all fun x=> !b.contains x
def ZeT (a b:Option (List Nat)):Bool:=match a,b with
 | some a,some b=>differ a b
 | _,_=>false
def Zmd (ops:Array Oper) (s:Nat) (e:Env) (p:Nat × Nat):Bool:=match ops[p.1]?,ops[p.2]? with
 | some x,some y=>ZeT (ZeC ops s x e) (Zew ops y e) || ZeT (ZeC ops s y e) (Zew ops x e) || ZeT (Zoi x e) (Zew ops y e)
 | _,_=>false
def dyOK (ops:Array Oper) (s:Nat) (e:Env) (l:List (Nat × Nat)):Bool:=l.all (Zmd ops s e)
abbrev Pu:=Option (List FuncId)
def Pu.of (p:Pu) (op:Op):Bool:=match p with
 | none=>false
 | some l=>match op with
   | .call c=>match c.callee with
     | .value (.func g)=> !l.contains g
     | _=>true
   | _=>true
structure Loc where
 blk:Nat
 off:Nat
 len:Nat
 cap:Nat
 esz:Nat
abbrev Zac:=Nat→Option Loc
structure Tied where
 holds:Zac→Prop
 mono:∀ {φ ψ:Zac},(∀ b l,φ b=some l→ψ b=some l)→holds φ→holds ψ
def Tied.free:Tied:=⟨fun _=>True,fun _ h=>h⟩
structure Cfg where
 P:Program
 ok:Nat→Bool
 pm:Nat→Nat→Pu
 dy:Nat→Nat→List (Nat × Nat)
 ext:FuncId→Option (Nat→Array Value→Heap→Option (Value × Heap))
 tied:Tied:=Tied.free
def ZaB (P:Program) (low:Nat) (pure:Pu) (call:Nat→FuncId→Array Value→Heap→Option (Value × Heap)) (ops:Array Oper):List Oper→Env→Heap→Option (Env × Heap)
 | [],e,h=>some (e,h)
 | o::rest,e,h=>match ZaR ops o e with
   | none=>none
   | some false=>ZaB P low pure call ops rest (e.put o.dst undef) h
   | some true=>match iop P low o e.eval h with
     | none=>none
     | some (.val v,h)=>ZaB P low pure call ops rest (e.put o.dst v) h
     | some (.skip,h)=>ZaB P low pure call ops rest (e.put o.dst undef) h
     | some (.enter f args,h)=>match call (if pure.of o.op then h.size else low) f args h with
       | none=>none
       | some (v,h)=>ZaB P low pure call ops rest (e.put o.dst v) h
mutual
def ZaJ (K:Cfg):Nat→Nat→FuncId→Code→Env→Heap→Option (Ex × Env × Heap)
 | 0,_,_,_,_,_=>none
 | n+1,low,f,c,e,h=>match c with
   | .skip=>some (.normal,e,h)
   | .label _=>some (.normal,e,h)
   | .region id ops draw=>match ZaB K.P low (if draw then K.pm f id else none) (Zbk K n) ops ops.toList e h with
     | some (e',h')=>if dyOK ops h.size e' (K.dy f id) then some (.normal,e',h') else none
     | none=>none
   | .seq a b=>match ZaJ K n low f a e h with
     | some (.normal,e,h)=>ZaJ K n low f b e h
     | r=>r
   | .cond c a b=>match e.eval c with
     | .bool true=>ZaJ K n low f a e h
     | .bool false=>ZaJ K n low f b e h
     | _=>none
   | .block id b=>match ZaJ K n low f b e h with
     | some (.exit id',e,h)=>if id'=id then some (.normal,e,h) else some (.exit id',e,h)
     | r=>r
   | .loop b=>match ZaJ K n low f b e h with
     | some (.normal,e,h)=>ZaJ K n low f (.loop b) e h
     | r=>r
   | .exit id=>some (.exit id,e,h)
   | .scope b=>ZaJ K n low f b e h
   | .ret=>some (.ret,e,h)
   | _=>none
def Zbk (K:Cfg):Nat→Nat→FuncId→Array Value→Heap→Option (Value × Heap)
 | 0,_,_,_,_=>none
 | n+1,low,f,args,h=>match K.ext f with
   | some g=>g low args h
   | none=>if K.ok f then match K.P.funcs[f]? with
     | some fn=>match fn.body with
       | some c=>match ZaJ K n low f c (Env.start fn.ntmps args.toList) h with
         | some (.normal,e,h) | some (.ret,e,h)=>match Zdj K.P fn e h with
           | some v=>some (v,h)
           | none=>none
         | _=>none
       | none=>none
     | none=>none else none
end
def Cfg.known (K:Cfg) (low:Nat) (f:FuncId) (args:Array Value) (h:Heap):Option (Value × Heap):=match K.ext f with
 | some g=>g low args h
 | none=>none
end Go.Im
namespace Go.Im
theorem Tree.Zae {α:Type} (x:α):∀ (f:Nat) (t:Tree α) (k:Nat),k < f→∀ j,(t.set f k x).get j=if j=k then some x else t.get j:=by
 intro f
 induction f with
 | zero=>intro t k h;omega
 | succ f ih =>
   intro t k hk j
   cases t with
   | leaf =>
     cases k with
     | zero =>
       cases j with
       | zero=>simp [Tree.set,Tree.get]
       | succ j=>simp [Tree.set,Tree.get]
     | succ k =>
       simp only [Tree.set]
       by_cases h:k%2=0
       ·simp only [h,if_true]
        cases j with
        | zero=>simp [Tree.get]
        | succ j =>
          by_cases hj:j%2=0
          ·simp only [Tree.get,hj,if_true]
           rw [ih _ _ Ya]
           by_cases e:j=k
           ·subst e;simp
           ·have h1:¬ j / 2=k / 2:=by omega
            simp [h1,e,Tree.get]
          ·have e:¬ j=k:=by rintro rfl;exact hj h
           simp [Tree.get,hj,e]
       ·simp only [h,if_false]
        cases j with
        | zero=>simp [Tree.get]
        | succ j =>
          by_cases hj:j%2=0
          ·have e:¬ j=k:=by rintro rfl;exact h hj
           simp [Tree.get,hj,e]
          ·simp only [Tree.get,hj,if_false]
           rw [ih _ _ Ya]
           by_cases e:j=k
           ·subst e;simp
           ·have h1:¬ j / 2=k / 2:=by omega
            simp [h1,e,Tree.get]
   | node v l r =>
     cases k with
     | zero =>
       cases j with
       | zero=>simp [Tree.set,Tree.get]
       | succ j=>simp [Tree.set,Tree.get]
     | succ k =>
       simp only [Tree.set]
       by_cases h:k%2=0
       ·simp only [h,if_true]
        cases j with
        | zero=>simp [Tree.get]
        | succ j =>
          by_cases hj:j%2=0
          ·simp only [Tree.get,hj,if_true]
           rw [ih _ _ Ya]
           by_cases e:j=k
           ·subst e;simp
           ·have h1:¬ j / 2=k / 2:=by omega
            simp [h1,e]
          ·have e:¬ j=k:=by rintro rfl;exact hj h
           simp [Tree.get,hj,e]
       ·simp only [h,if_false]
        cases j with
        | zero=>simp [Tree.get]
        | succ j =>
          by_cases hj:j%2=0
          ·have e:¬ j=k:=by rintro rfl;exact h hj
           simp [Tree.get,hj,e]
          ·simp only [Tree.get,hj,if_false]
           rw [ih _ _ Ya]
           by_cases e:j=k
           ·subst e;simp
           ·have h1:¬ j / 2=k / 2:=by omega
            simp [h1,e]
theorem Heap.Zae (h:Heap) (b j:Nat) (x:Blk):(h.set b x).get j=if j=b then x else h.get j:=by
 unfold Heap.get Heap.set
 simp only [Tree.Zae x (b+1) h.tree b Ya j]
 by_cases e:j=b<;>simp [e]
theorem Heap.Zam (h:Heap) (j:Nat) (x:Blk):(h.push x).get j=if j=h.size then x else h.get j:=by
 unfold Heap.get Heap.push
 simp only [Tree.Zae x (h.size+1) h.tree h.size Ya j]
 by_cases e:j=h.size<;>simp [e]
@[simp] theorem Heap.size_set (h:Heap) (b:Nat) (x:Blk):(h.set b x).size=h.size:=rfl
@[simp] theorem Heap.size_push (h:Heap) (x:Blk):(h.push x).size=h.size+1:=rfl
theorem Env.get_put (e:Env) (d t:Nat) (v:Value):(e.put (some d) v).get t=if d < e.size∧t=d then v else e.get t:=by
 unfold Env.put Env.get
 by_cases hd:d < e.size
 ·simp only [hd,if_true,true_and]
  simp only [Tree.Zae v (d+1) e.tree d Ya t]
  by_cases h:t=d<;>simp [h]
 ·simp [hd]
@[simp] theorem Env.size_put (e:Env) (d:Option Tmp) (v:Value):(e.put d v).size=e.size:=by
  unfold Env.put
  cases d with
  | none=>rfl
  | some d=>simp only [];split<;>rfl
theorem Env.ZhA:∀ (vs:List Value) (i:Nat) (t:Tree Value) (j:Nat),(Env.fill vs i t).get j=if i≤j∧j < i+vs.length then vs[j - i]? else t.get j
 | [],i,t,j=>by
   have:¬ (i≤j∧j < i+([]:List Value).length):=by simp
   rw [if_neg this];rfl
 | v::vs,i,t,j=>by
   rw [Env.fill,Env.ZhA vs (i+1) _ j,Tree.Zae v (i+1) t i Ya j]
   simp only [List.length_cons]
   by_cases e:j=i
   ·subst e
    have h1:¬ (j+1≤j∧j < j+1+vs.length):=Ya
    have h2:j≤j∧j < j+(vs.length+1):=Ya
    rw [if_neg h1,if_pos h2]
    simp
   ·by_cases h1:i+1≤j∧j < i+1+vs.length
    ·have h2:i≤j∧j < i+(vs.length+1):=by omega
     rw [if_pos h1,if_pos h2]
     obtain ⟨m,rfl⟩:∃ m,j=i+1+m:=⟨j - (i+1),by omega⟩
     have a1:i+1+m - (i+1)=m:=Ya
     have a2:i+1+m - i=m+1:=Ya
     rw [a1,a2,List.getElem?_cons_succ]
    ·have h2:¬ (i≤j∧j < i+(vs.length+1)):=by omega
     rw [if_neg h1,if_neg h2,if_neg e]
inductive RV (φ:Zac):Value→Value→Prop
 | bad (v:Value):RV φ (.chan none) v
 | bool (b:Bool):RV φ (.bool b) (.bool b)
 | int (k:IntKind) (n:Int):RV φ (.int k n) (.int k n)
 | float (k:FloatKind) (n:Nat):RV φ (.float k n) (.float k n)
 | string (s:ByteArray):RV φ (.string s) (.string s)
 | nilPtr:RV φ (.pointer none) (.pointer none)
 | ptr (b o:Nat) (l:Loc) (h:φ b=some l):RV φ (.pointer (some ⟨b,o,none⟩)) (.pointer (some ⟨l.blk,l.off+o,none⟩))
 | nilSlice:RV φ (.slice none 0 0) (.slice none 0 0)
 | known (b o n c:Nat) (l:Loc) (h:φ b=some l) (hc:c < big) (hn:n≤c) (ho:o+c*l.esz≤l.len) :
    RV φ (.slice (some ⟨b,o,none⟩) n c) (.slice (some ⟨l.blk,l.off+o,none⟩) n c)
 | unknown (b o n c:Nat) (l:Loc) (h:φ b=some l) (hn:n≤c) (ho:o+n*l.esz≤l.len) (he:l.len≤o+c*l.esz) (hc:l.off+o+c*l.esz≤l.cap) :
    RV φ (.slice (some ⟨b,o,none⟩) n big) (.slice (some ⟨l.blk,l.off+o,none⟩) n c)
 | spent (b o:Nat) (l:Loc) (a:Addr) (h:φ b=some l) (ho:l.len=o):RV φ (.slice (some ⟨b,o,none⟩) 0 big) (.slice (some a) 0 0)
 | void (b o:Nat) (a:Addr):RV φ (.slice (some ⟨b,o,none⟩) 0 0) (.slice (some a) 0 0)
 | nilMap:RV φ (.map none) (.map none)
 | map (r:Nat) (l:Loc) (h:φ r=some l):RV φ (.map (some r)) (.map (some l.blk))
 | nilFunc:RV φ .nilFunc .nilFunc
 | nilIface:RV φ .nilIface .nilIface
 | func (fn:Fn) (f f' c c':Array Value) (hf:f.toList.length=f'.toList.length) (hc:c.toList.length=c'.toList.length)
    (rf:∀ (i:Nat) (x y:Value),f.toList[i]? =some x→f'.toList[i]? =some y→RV φ x y)
    (rc:∀ (i:Nat) (x y:Value),c.toList[i]? =some x→c'.toList[i]? =some y→RV φ x y):RV φ (.func fn f c) (.func fn f' c')
 | iface (t:TypeId) (v v':Value) (h:RV φ v v'):RV φ (.iface t v) (.iface t v')
 | agg (xs ys:Array Value) (hs:xs.toList.length=ys.toList.length) (h:∀ (i:Nat) (x y:Value),xs.toList[i]? =some x→ys.toList[i]? =some y→RV φ x y):RV φ (.agg xs) (.agg ys)
 | tuple (xs ys:Array Value) (hs:xs.toList.length=ys.toList.length) (h:∀ (i:Nat) (x y:Value),xs.toList[i]? =some x→ys.toList[i]? =some y→RV φ x y):RV φ (.tuple xs) (.tuple ys)
theorem RV.mono {φ ψ:Zac} (hx:∀ b l,φ b=some l→ψ b=some l) {v v':Value} (h:RV φ v v'):RV ψ v v':=by
 induction h with
 | bad v=>exact .bad v
 | bool b=>exact .bool b
 | int k n=>exact .int k n
 | float k n=>exact .float k n
 | string s=>exact .string s
 | nilPtr=>exact .nilPtr
 | ptr b o l h=>exact .ptr b o l (hx _ _ h)
 | nilSlice=>exact .nilSlice
 | known b o n c l h hc hn ho=>exact .known b o n c l (hx _ _ h) hc hn ho
 | unknown b o n c l h hn ho he hc=>exact .unknown b o n c l (hx _ _ h) hn ho he hc
 | spent b o l a h ho=>exact .spent b o l a (hx _ _ h) ho
 | void b o a=>exact .void b o a
 | nilMap=>exact .nilMap
 | map r l h=>exact .map r l (hx _ _ h)
 | nilFunc=>exact .nilFunc
 | nilIface=>exact .nilIface
 | func fn f f' c c' hf hc _ _ rf rc=>exact .func fn f f' c c' hf hc rf rc
 | iface t v v' _ ih=>exact .iface t v v' ih
 | agg xs ys hs _ ih=>exact .agg xs ys hs ih
 | tuple xs ys hs _ ih=>exact .tuple xs ys hs ih
theorem RV.undef (φ:Zac):RV φ undef undef:= .tuple _ _ rfl (by intro i x y h;simp at h)
def RL (φ:Zac) (xs ys:List Value):Prop:=xs.length=ys.length∧∀ (i:Nat) (x y:Value),xs[i]? =some x→ys[i]? =some y→RV φ x y
theorem RL.nil (φ:Zac):RL φ [] []:=⟨rfl,by intro i x y h;simp at h⟩
theorem RL.cons {φ:Zac} {x y:Value} {xs ys:List Value} (h:RV φ x y) (t:RL φ xs ys):RL φ (x::xs) (y::ys):=by
 refine ⟨by simp [t.1],?_⟩
 intro i a b ha hb
 cases i with
 | zero=>simp at ha hb;subst ha hb;exact h
 | succ i=>exact t.2 i a b (by simpa using ha) (by simpa using hb)
theorem RL.tail {φ:Zac} {x y:Value} {xs ys:List Value} (h:RL φ (x::xs) (y::ys)):RV φ x y∧RL φ xs ys :=
 ⟨h.2 0 x y rfl rfl,by have:=h.1;simpa using this,fun i a b ha hb=>h.2 (i+1) a b (by simpa using ha) (by simpa using hb)⟩
theorem RL.append {φ:Zac} {xs ys us vs:List Value} (h:RL φ xs ys) (t:RL φ us vs):RL φ (xs++us) (ys++vs):=by
 refine ⟨by simp [h.1,t.1],?_⟩
 intro i a b ha hb
 by_cases hi:i < xs.length
 ·rw [List.getElem?_append_left hi] at ha
  rw [List.getElem?_append_left (by rw [← h.1];exact hi)] at hb
  exact h.2 i a b ha hb
 ·rw [List.getElem?_append_right Ya] at ha
  rw [List.getElem?_append_right (by rw [← h.1];omega),← h.1] at hb
  exact t.2 _ a b ha hb
theorem RL.take {φ:Zac} {xs ys:List Value} (h:RL φ xs ys) (n:Nat):RL φ (xs.take n) (ys.take n):=by
 refine ⟨by simp [h.1],?_⟩
 intro i a b ha hb
 rw [List.getElem?_take] at ha hb
 by_cases hi:i < n
 ·simp only [hi,if_true] at ha hb
  exact h.2 i a b ha hb
 ·simp [hi] at ha
theorem RL.drop {φ:Zac} {xs ys:List Value} (h:RL φ xs ys) (n:Nat):RL φ (xs.drop n) (ys.drop n):=by
 refine ⟨by simp [h.1],?_⟩
 intro i a b ha hb
 rw [List.getElem?_drop] at ha hb
 exact h.2 _ a b ha hb
theorem RL.get {φ:Zac} {xs ys:List Value} (h:RL φ xs ys) {i:Nat} {x:Value} (hx:xs[i]? =some x):∃ y,ys[i]? =some y∧RV φ x y:=by
 have hi:i < ys.length:=by have:=(List.getElem?_eq_some_iff.1 hx).1;rw [← h.1];exact this
 exact ⟨ys[i],List.getElem?_eq_getElem hi,h.2 i x _ hx (List.getElem?_eq_getElem hi)⟩
def RB (φ:Zac) (l:Loc):Blk→Obj→Prop
 | .cells cs esz,.cells c _ fr=>cs.length=l.len∧l.cap=c.size∧l.off+l.len≤l.cap∧l.esz=esz∧0 < esz∧(fr=(0,0)∨(c.size≤fr.1∧esz=1)) ∧
    ∀ (i:Nat) (v:Value),cs[i]? =some v→Zal v=true∧∃ v',c[l.off+i]? =some v'∧RV φ v v'
 | .fixed cs esz,.cells c _ _=>cs.length=l.len∧l.off+l.len≤c.size∧l.esz=esz∧0 < esz∧∀ (i:Nat) (v:Value),cs[i]? =some v→Zal v=true∧∃ v',c[l.off+i]? =some v'∧RV φ v v'
 | .map es k,.map es' k'=>k=k'∧es.length=es'.size∧∀ (i:Nat) (e e':MapEntry),es[i]? =some e→es'.toList[i]? =some e'→e.born=e'.born∧RV φ e.key e'.key∧RV φ e.val e'.val
 | .siter s p,.stringIter s' p'=>s=s'∧p=p'∧l.off=0
 | .dead,_=>True
 | _,_=>False
structure RH (φ:Zac) (h:Heap) (w:World):Prop where
 low:∀ b l,φ b=some l→b < h.size∧l.blk < w.heap.size
 blk:∀ b l,φ b=some l→∃ o,w.heap[l.blk]? =some o∧RB φ l (h.get b) o
 inj:∀ b c l m,φ b=some l→φ c=some m→h.get b≠ .dead→h.get c≠ .dead→(h.get b).isFixed=false∨(h.get c).isFixed=false→l.blk=m.blk→b=c
structure RE (φ:Zac) (e:Env) (tmps:Array Value):Prop where
 size:tmps.size=e.size
 get:∀ t,RV φ (e.get t) (tmps.getD t undef)
structure Goes (low:Nat) (φ:Zac) (h:Heap) (w:World) (ψ:Zac) (h':Heap) (w':World):Prop where
 ext:∀ b l,φ b=some l→ψ b=some l
 old:∀ b,b < h.size→ψ b=φ b
 rh:RH ψ h' w'
 grows:h.size≤h'.size
 fresh:∀ b l,h.size≤b→ψ b=some l→w.heap.size≤l.blk∨∃ c m,low≤c∧φ c=some m∧m.blk=l.blk
 os:w'.os=w.os
 tape:w'.tape=w.tape
 output:w'.output=w.output
 size:w.heap.size≤w'.heap.size
 kept:∀ i,i < w.heap.size→(∀ b l,low≤b→φ b=some l→l.blk≠i)→w'.heap[i]? =w.heap[i]?
theorem Goes.refl {low:Nat} {φ:Zac} {h:Heap} {w:World} (r:RH φ h w):Goes low φ h w φ h w where
 ext:=fun _ _ h=>h
 old:=fun _ _=>rfl
 rh:=r
 grows:=Nat.le_refl _
 fresh:=fun b l hb hl=>by have:=(r.low b l hl).1;omega
 os:=rfl
 tape:=rfl
 output:=rfl
 size:=Nat.le_refl _
 kept:=fun _ _ _=>rfl
theorem Goes.trans {low:Nat} {φ ψ χ:Zac} {h h1 h2:Heap} {w w1 w2:World} (a:Goes low φ h w ψ h1 w1) (b:Goes low ψ h1 w1 χ h2 w2):Goes low φ h w χ h2 w2 where
 ext:=fun c l hc=>b.ext c l (a.ext c l hc)
 old:=fun c hc=>(b.old c (by have:=a.grows;omega)).trans (a.old c hc)
 rh:=b.rh
 grows:=Nat.le_trans a.grows b.grows
 fresh:=fun c l hc hl=>by
  by_cases h1c:c < h1.size
  ·exact a.fresh c l hc (by rw [← b.old c h1c];exact hl)
  ·rcases b.fresh c l Ya hl with hw | ⟨d,m,hd,hm,hb⟩
   ·exact .inl (by have:=a.size;omega)
   ·by_cases hds:d < h.size
    ·exact .inr ⟨d,m,hd,by rw [← a.old d hds];exact hm,hb⟩
    ·rcases a.fresh d m Ya hm with hw | ⟨d',m',hd',hm',hb'⟩
     ·exact .inl Ya
     ·exact .inr ⟨d',m',hd',hm',hb'.trans hb⟩
 os:=b.os.trans a.os
 tape:=b.tape.trans a.tape
 output:=b.output.trans a.output
 size:=Nat.le_trans a.size b.size
 kept:=fun i hi hn=>by
  rw [b.kept i (by have:=a.size;omega) ?_]
  ·exact a.kept i hi hn
  ·intro c l hc hl e
   by_cases hcs:c < h.size
   ·exact hn c l hc (by rw [← a.old c hcs];exact hl) e
   ·rcases a.fresh c l Ya hl with hw | ⟨d,m,hd,hm,hb⟩
    ·omega
    ·exact hn d m hd hm (hb.trans e)
theorem Goes.weaken {low low':Nat} (hl:low'≤low) {φ ψ:Zac} {h h1:Heap} {w w1:World} (a:Goes low φ h w ψ h1 w1):Goes low' φ h w ψ h1 w1 where
 ext:=a.ext
 old:=a.old
 rh:=a.rh
 grows:=a.grows
 fresh:=fun b l hb hm=>(a.fresh b l hb hm).imp id fun ⟨c,m,hc,x⟩=>⟨c,m,Nat.le_trans hl hc,x⟩
 os:=a.os
 tape:=a.tape
 output:=a.output
 size:=a.size
 kept:=fun i hi hn=>a.kept i hi fun b l hb=>hn b l (Nat.le_trans hl hb)
end Go.Im
namespace Go.Im
theorem addr_add (g o j:Nat):(⟨g,o,none⟩:Addr).add j=⟨g,o+j,none⟩:=by
 unfold Addr.add
 split
 ·subst_vars;rfl
 ·rfl
theorem RV.oneCell {φ:Zac} {v v':Value} (h:RV φ v v') (hc:Zal v=true):v'.oneCell'=true:=by
 cases h<;>simp_all [Zal,Value.oneCell']
theorem Zch {φ:Zac} {h:Heap} {w:World} (r:RH φ h w) {b:Nat} {l:Loc} (hb:φ b=some l) {cs:List Value} {esz:Nat} (hg:h.get b= .cells cs esz) :
  ∃ c e fr,w.heap[l.blk]? =some (.cells c e fr)∧cs.length=l.len∧l.cap=c.size∧l.off+l.len≤l.cap∧l.esz=esz∧0 < esz∧(fr=(0,0)∨(c.size≤fr.1∧esz=1)) ∧
    ∀ (i:Nat) (v:Value),cs[i]? =some v→Zal v=true∧∃ v',c[l.off+i]? =some v'∧RV φ v v':=by
 obtain ⟨o,ho,hr⟩:=r.blk b l hb
 rw [hg] at hr
 cases o with
 | cells c e fr=>exact ⟨c,e,fr,ho,hr⟩
 | _=>exact absurd hr (by simp [RB])
theorem Zcx {φ:Zac} {h:Heap} {w:World} (r:RH φ h w) {b:Nat} {l:Loc} (hb:φ b=some l) {cs:List Value} {esz:Nat} (hg:h.look b= .cells cs esz) :
  ∃ c e fr,w.heap[l.blk]? =some (.cells c e fr)∧cs.length=l.len∧l.off+l.len≤c.size∧l.esz=esz∧0 < esz ∧
    ∀ (i:Nat) (v:Value),cs[i]? =some v→Zal v=true∧∃ v',c[l.off+i]? =some v'∧RV φ v v':=by
 obtain ⟨o,ho,hr⟩:=r.blk b l hb
 unfold Heap.look at hg
 cases hq:h.get b with
 | cells cs' esz' =>
   rw [hq] at hg hr
   cases hg
   cases o with
   | cells c e fr =>
     obtain ⟨a1,a2,a3,a4,a5,_,a7⟩:=hr
     exact ⟨c,e,fr,ho,a1,by omega,a4,a5,a7⟩
   | _=>exact absurd hr (by simp [RB])
 | fixed cs' esz' =>
   rw [hq] at hg hr
   cases hg
   cases o with
   | cells c e fr=>exact ⟨c,e,fr,ho,hr⟩
   | _=>exact absurd hr (by simp [RB])
 | _=>rw [hq] at hg;cases hg
theorem Zqk {h:Heap} {b:Nat} {cs:List Value} {esz:Nat} (hg:h.get b= .cells cs esz):h.look b= .cells cs esz:=by
 unfold Heap.look
 rw [hg]
 rfl
theorem Zke {φ:Zac} {h:Heap} {w:World} (r:RH φ h w) {b:Nat} {l:Loc} (hb:φ b=some l) {cs:List Value} {esz:Nat} (hg:h.look b= .cells cs esz)
  {i:Nat} {v:Value} (hi:cs[i]? =some v):∃ v',w.cell? ⟨l.blk,l.off+i,none⟩=some v'∧RV φ v v':=by
 obtain ⟨c,e,fr,ho,_,_,_,_,hr⟩:=Zcx r hb hg
 obtain ⟨_,v',hv,hrv⟩:=hr i v hi
 exact ⟨v',by simp [World.cell?,ho,hv],hrv⟩
theorem ZbX (P:Program) {φ:Zac} {h:Heap} {w:World} (r:RH φ h w) {b:Nat} {l:Loc} (hb:φ b=some l) {cs:List Value} {esz:Nat} (hg:h.look b= .cells cs esz)
  {o n:Nat} (hn:o+n≤cs.length):∃ ys,(∀ D,(loadCells ⟨l.blk,l.off+o,none⟩ n).run P { w with drawn:=D }= .ok ys.toArray { w with drawn:=D })∧RL φ ((cs.drop o).take n) ys∧ys.length=n:=by
 obtain ⟨c,e,fr,ho,hl,hfit,_,_,hr⟩:=Zcx r hb hg
 have hlen:((c.toList.drop (l.off+o)).take n).length=n:=by
  simp
  omega
 refine ⟨(c.toList.drop (l.off+o)).take n,fun D=> ?_,⟨by simp;omega,?_⟩,hlen⟩
 ·have:=run_loadCells_list (P:=P) { w with drawn:=D } ⟨l.blk,l.off+o,none⟩ ((c.toList.drop (l.off+o)).take n) ?_
  ·rw [hlen] at this;exact this
  ·intro j v hj
   rw [addr_add]
   rw [List.getElem?_take] at hj
   split at hj
   ·rw [List.getElem?_drop] at hj
    have:c[l.off+o+j]? =some v:=by rw [← Array.getElem?_toList];exact hj
    simp [World.cell?,ho,this]
   ·cases hj
 ·intro i x y hx hy
  rw [List.getElem?_take] at hx hy
  split at hx
  ·rename_i hi
   simp only [hi,if_true] at hy
   rw [List.getElem?_drop] at hx hy
   obtain ⟨_,v',hv,hrv⟩:=hr _ _ hx
   rw [Array.getElem?_toList,Nat.add_assoc,hv] at hy
   cases hy
   exact hrv
  ·cases hx
theorem Zmy {P:Program} {φ:Zac} {h:Heap} {w:World} (r:RH φ h w) {b:Nat} {l:Loc} (hb:φ b=some l) {cs:List Value} {esz:Nat} (hg:h.look b= .cells cs esz)
  {o n:Nat} (hn:o+n≤cs.length):∃ ys,(loadCells ⟨l.blk,l.off+o,none⟩ n).run P w= .ok ys.toArray w∧RL φ ((cs.drop o).take n) ys∧ys.length=n:=by
 obtain ⟨ys,h1,h2,h3⟩:=ZbX P r hb hg hn
 exact ⟨ys,h1 w.drawn,h2,h3⟩
def World.putObj (w:World) (g:Nat) (o:Obj):World:={ w with heap:=w.heap.setIfInBounds g o }
theorem Za5 (w:World) (g j:Nat) (o:Obj) (hg:g < w.heap.size):(World.putObj w g o).heap[j]? =if j=g then some o else w.heap[j]? :=by
 unfold World.putObj
 simp only [Array.getElem?_setIfInBounds]
 by_cases h:g=j
 ·subst h;simp [hg]
 ·have:¬ j=g:=fun e=>h e.symm
  simp [h,this]
theorem RB.mono {φ ψ:Zac} (hx:∀ b l,φ b=some l→ψ b=some l) {l:Loc} {x:Blk} {o:Obj} (h:RB φ l x o):RB ψ l x o:=by
 cases x<;>cases o<;>simp only [RB] at h ⊢<;>try exact h
 ·obtain ⟨h1,h2,h3,h4,h5,h6,h7⟩:=h
  exact ⟨h1,h2,h3,h4,h5,h6,fun i v hv=>by
   obtain ⟨hc,v',a,b⟩:=h7 i v hv
   exact ⟨hc,v',a,b.mono hx⟩⟩
 ·obtain ⟨h1,h2,h3,h4,h7⟩:=h
  exact ⟨h1,h2,h3,h4,fun i v hv=>by
   obtain ⟨hc,v',a,b⟩:=h7 i v hv
   exact ⟨hc,v',a,b.mono hx⟩⟩
 ·obtain ⟨h1,h2,h3⟩:=h
  exact ⟨h1,h2,fun i e e' a b=>by
   obtain ⟨x,y,z⟩:=h3 i e e' a b
   exact ⟨x,y.mono hx,z.mono hx⟩⟩
theorem Goes.update {low:Nat} {φ:Zac} {h:Heap} {w:World} (r:RH φ h w) {b:Nat} {l:Loc} (hb:φ b=some l) (hl:low≤b) (hlive:h.get b≠ .dead) (hfx:(h.get b).isFixed=false)
  {x:Blk} {o:Obj} (hrb:RB φ l x o):Goes low φ h w φ (h.set b x) (World.putObj w l.blk o):=by
 have hlt:=(r.low b l hb).2
 refine ⟨fun _ _ h=>h,fun _ _=>rfl,⟨?_,?_,?_⟩,by simp,fun c m hc hm=>by have:=(r.low c m hm).1;omega,rfl,rfl,rfl,by simp [World.putObj],?_⟩
 ·intro c m hm
  have:=r.low c m hm
  exact ⟨this.1,by simpa [World.putObj] using this.2⟩
 ·intro c m hm
  rw [Za5 _ _ _ _ hlt,Heap.Zae]
  by_cases hc:c=b
  ·subst hc
   rw [hb] at hm
   cases hm
   exact ⟨o,by simp,by simpa using hrb⟩
  ·simp only [hc,if_false]
   obtain ⟨o',ho',hr'⟩:=r.blk c m hm
   by_cases hm':m.blk=l.blk
   ·have hdead:h.get c= .dead:=Classical.byContradiction fun hd=>hc (r.inj c b m l hm hb hd hlive (.inr hfx) hm')
    exact ⟨o,by simp [hm'],by rw [hdead];cases o<;>simp [RB]⟩
   ·exact ⟨o',by simp [hm',ho'],hr'⟩
 ·intro c d m m' hm hm' hc hd hf e
  rw [Heap.Zae] at hc hd
  rw [Heap.Zae,Heap.Zae] at hf
  refine r.inj c d m m' hm hm' ?_ ?_ ?_ e
  ·by_cases hcb:c=b
   ·subst hcb;exact hlive
   ·simpa [hcb] using hc
  ·by_cases hdb:d=b
   ·subst hdb;exact hlive
   ·simpa [hdb] using hd
  ·by_cases hcb:c=b
   ·subst hcb;exact .inl hfx
   ·by_cases hdb:d=b
    ·subst hdb;exact .inr hfx
    ·simpa [hcb,hdb] using hf
 ·intro i hi hn
  rw [Za5 _ _ _ _ hlt]
  have:¬ i=l.blk:=fun e=>hn b l hl hb e.symm
  simp [this]
def Zac.add (φ:Zac) (b:Nat) (l:Loc):Zac:=fun c=>if c=b then some l else φ c
theorem Zac.ZdO {φ:Zac} {h:Heap} {w:World} (r:RH φ h w) (l:Loc):∀ c m,φ c=some m→(Zac.add φ h.size l) c=some m:=by
 intro c m hm
 have:=(r.low c m hm).1
 have:¬ c=h.size:=by omega
 simp [Zac.add,this,hm]
theorem Goes.make {low:Nat} {φ:Zac} {h:Heap} {w:World} (r:RH φ h w) {l:Loc} (hl:l.blk=w.heap.size) {x:Blk} {o:Obj} (hrb:RB (Zac.add φ h.size l) l x o) :
  Goes low φ h w (Zac.add φ h.size l) (h.push x) { w with heap:=w.heap.push o }:=by
 have hext:=Zac.ZdO r l
 have hself:(Zac.add φ h.size l) h.size=some l:=Y7
 have hof:∀ c m,(Zac.add φ h.size l) c=some m→(c=h.size∧m=l)∨(c < h.size∧φ c=some m∧m.blk < w.heap.size):=by
  intro c m hm
  by_cases hc:c=h.size
  ·subst hc;rw [hself] at hm;cases hm;exact .inl ⟨rfl,rfl⟩
  ·have hm':φ c=some m:=by simpa [Zac.add,hc] using hm
   exact .inr ⟨(r.low c m hm').1,hm',(r.low c m hm').2⟩
 refine ⟨hext,fun c hc=>by have:¬ c=h.size:=by omega
                           simp [Zac.add,this],⟨?_,?_,?_⟩,by simp,?_,rfl,rfl,rfl,by simp,?_⟩
 ·intro c m hm
  rcases hof c m hm with ⟨rfl,rfl⟩ | ⟨h1,h2,h3⟩
  ·simp [hl]
  ·simp;omega
 ·intro c m hm
  rw [Heap.Zam]
  rcases hof c m hm with ⟨rfl,rfl⟩ | ⟨h1,h2,h3⟩
  ·exact ⟨o,by simp [hl],by simpa using hrb⟩
  ·have:¬ c=h.size:=by omega
   obtain ⟨o',ho',hr'⟩:=r.blk c m h2
   refine ⟨o',?_,by simpa [this] using hr'.mono hext⟩
   have hne:¬ m.blk=w.heap.size:=Ya
   simp [Array.getElem?_push,hne,ho']
 ·intro c d m m' hm hm' hc hd hf e
  rw [Heap.Zam] at hc hd
  rw [Heap.Zam,Heap.Zam] at hf
  rcases hof c m hm with ⟨rfl,rfl⟩ | ⟨h1,h2,h3⟩<;>rcases hof d m' hm' with ⟨rfl,rfl⟩ | ⟨g1,g2,g3⟩
  ·rfl
  ·omega
  ·omega
  ·have a1:¬ c=h.size:=by omega
   have a2:¬ d=h.size:=Ya
   exact r.inj c d m m' h2 g2 (by simpa [a1] using hc) (by simpa [a2] using hd) (by simpa [a1,a2] using hf) e
 ·intro c m hc hm
  rcases hof c m hm with ⟨rfl,rfl⟩ | ⟨h1,h2,h3⟩
  ·exact .inl Ya
  ·omega
 ·intro i hi hn
  have hne:¬ i=w.heap.size:=Ya
  simp [Array.getElem?_push,hne]
theorem Goes.Zcp {low:Nat} {φ:Zac} {h:Heap} {w:World} (r:RH φ h w) {xs:List Value} {ys:Array Value} {esz:Nat} (e:TypeId) (fr:Nat × Nat) (hz:0 < esz)
  (hok:xs.all Zal=true) (hle:xs.length≤ys.size) (hfr:fr=(0,0)∨(ys.size≤fr.1∧esz=1))
  (hrl:∀ (i:Nat) (x:Value),xs[i]? =some x→∃ y,ys[i]? =some y∧RV φ x y) :
  Goes low φ h w (Zac.add φ h.size ⟨w.heap.size,0,xs.length,ys.size,esz⟩) (h.push (.cells xs esz)) { w with heap:=w.heap.push (.cells ys e fr) }:=by
 refine Goes.make r rfl ?_
 refine ⟨rfl,rfl,by simpa using hle,rfl,hz,hfr,?_⟩
 intro i v hv
 refine ⟨List.all_eq_true.1 hok v (List.mem_of_getElem? hv),?_⟩
 obtain ⟨y,hy,hrv⟩:=hrl i v hv
 exact ⟨y,by simpa using hy,hrv.mono (Zac.ZdO r _)⟩
theorem RH.drew {φ:Zac} {h:Heap} {w:World} (r:RH φ h w) (n:Nat):RH φ h { w with drawn:=n }:=⟨r.low,r.blk,r.inj⟩
theorem Goes.drew {low:Nat} {φ ψ:Zac} {h h':Heap} {w w':World} (g:Goes low φ h w ψ h' w') (n:Nat):Goes low φ h w ψ h' { w' with drawn:=n } :=
 ⟨g.ext,g.old,g.rh.drew n,g.grows,g.fresh,g.os,g.tape,g.output,g.size,g.kept⟩
def wr (c:Array Value) (o:Nat):List Value→Array Value
 | []=>c
 | v::vs=>wr (c.setIfInBounds o v) (o+1) vs
theorem ZcO (vs:List Value):∀ (c:Array Value) (o:Nat),(wr c o vs).size=c.size:=by
 induction vs with
 | nil=>intro c o;rfl
 | cons v vs ih=>intro c o;simp [wr,ih]
theorem ZiD (vs:List Value):∀ (c:Array Value) (o j:Nat),o+vs.length≤c.size→(wr c o vs)[j]? =if o≤j∧j < o+vs.length then vs[j - o]? else c[j]? :=by
 induction vs with
 | nil =>
   intro c o j _
   have:¬ (o≤j∧j < o+([]:List Value).length):=by simp
   rw [if_neg this];rfl
 | cons v vs ih =>
   intro c o j h
   simp only [List.length_cons] at h
   rw [wr,ih _ _ _ Yl]
   by_cases e:j=o
   ·subst e
    have h1:¬ (j+1≤j∧j < j+1+vs.length):=Ya
    have h2:j≤j∧j < j+(v::vs).length:=Yp
    rw [if_neg h1,if_pos h2]
    have:j < c.size:=by omega
    simp [this]
   ·by_cases h1:o+1≤j∧j < o+1+vs.length
    ·have h2:o≤j∧j < o+(v::vs).length:=by simp;omega
     rw [if_pos h1,if_pos h2]
     obtain ⟨m,rfl⟩:∃ m,j=o+1+m:=⟨j - (o+1),by omega⟩
     rw [show o+1+m - (o+1)=m by omega,show o+1+m - o=m+1 by omega,List.getElem?_cons_succ]
    ·have h2:¬ (o≤j∧j < o+(v::vs).length):=by simp;omega
     rw [if_neg h1,if_neg h2]
     have:¬ o=j:=fun e'=>e e'.symm
     simp [Array.getElem?_setIfInBounds,this]
theorem Zi0 {w:World} {g o:Nat} {c:Array Value} {e:TypeId} {fr:Nat × Nat} (hg:w.heap[g]? =some (.cells c e fr)) (v:Value) :
  w.setCell ⟨g,o,none⟩ v=World.putObj w g (.cells (c.setIfInBounds o v) e fr):=by
 unfold World.setCell World.putObj
 congr 1
 apply Array.ext_getElem?
 intro i
 simp only [Array.getElem?_modify,Array.getElem?_setIfInBounds]
 have hlt:g < w.heap.size:=(Array.getElem?_eq_some_iff.1 hg).1
 by_cases h:g=i
 ·subst h
  rw [hg]
  simp [hlt]
 ·simp [h]
theorem ZgF (w:World) (g:Nat) (o o':Obj):World.putObj (World.putObj w g o) g o'=World.putObj w g o':=by
 unfold World.putObj
 simp
theorem Zb8 {P:Program}:∀ (vs:List Value) (i:Nat) (w:World) (g o:Nat) (c:Array Value) (e:TypeId) (fr:Nat × Nat),
  w.heap[g]? =some (.cells c e fr)→(fr=(0,0)∨c.size≤fr.1)→o+i+vs.length≤c.size→(∀ v ∈ vs,v.oneCell'=true) →
  (storeCells ⟨g,o,none⟩ vs i).run P w= .ok () (if vs=[] then w else World.putObj w g (.cells (wr c (o+i) vs) e fr)):=by
 intro vs
 induction vs with
 | nil=>intro i w g o c e fr _ _ _ _;simp [storeCells]
 | cons v vs ih =>
   intro i w g o c e fr hg hfr hle hone
   simp only [List.length_cons] at hle
   have hlt:g < w.heap.size:=(Array.getElem?_eq_some_iff.1 hg).1
   have hcell:∃ u,w.cell? ⟨g,o+i,none⟩=some u:=by
    refine ⟨c[o+i]' Ya,?_⟩
    simp [World.cell?,hg,Array.getElem?_eq_getElem (show o+i < c.size by omega)]
   obtain ⟨u,hu⟩:=hcell
   have hnf:w.frozen? ⟨g,o+i,none⟩=false:=by
    simp only [World.frozen?,hg]
    rcases hfr with rfl | hfr
    ·simp
    ·simp;omega
   simp only [storeCells,Sem.run_bind,addr_add,run_store P w _ v .plain (hone v Yp),hu,hnf,Bool.false_eq_true,if_false,Result.andThen_ok]
   rw [Zi0 hg]
   rw [ih (i+1) _ g o (c.setIfInBounds (o+i) v) e fr (by rw [Za5 _ _ _ _ hlt];simp) (by simpa using hfr) Yl (fun x hx=>hone x Y6)]
   by_cases hv:vs=[]
   ·subst hv;simp [wr]
   ·simp only [hv,if_false,ZgF]
    simp [wr,Nat.add_assoc]
theorem ZcE {cs vs:List Value} {o:Nat} (h:o+vs.length≤cs.length):(splice cs o vs).length=cs.length:=by
 simp [splice];omega
theorem ZkH {cs vs:List Value} {o:Nat} (h:o+vs.length≤cs.length) (j:Nat):(splice cs o vs)[j]? =if o≤j∧j < o+vs.length then vs[j - o]? else cs[j]? :=by
 have ht:(cs.take o).length=o:=Yl
 unfold splice
 by_cases h1:j < o
 ·have:¬ (o≤j∧j < o+vs.length):=by omega
  rw [if_neg this,List.append_assoc,List.getElem?_append_left Ya,List.getElem?_take]
  simp [h1]
 ·by_cases h2:j < o+vs.length
  ·have:o≤j∧j < o+vs.length:=by omega
   rw [if_pos this,List.append_assoc,List.getElem?_append_right Ya,ht,List.getElem?_append_left Ya]
  ·have:¬ (o≤j∧j < o+vs.length):=by omega
   rw [if_neg this,List.getElem?_append_right Yl,List.getElem?_drop]
   congr 1
   simp;omega
theorem Goes.write {P:Program} {low:Nat} {φ:Zac} {h:Heap} {w:World} (r:RH φ h w) {b:Nat} {l:Loc} (hb:φ b=some l) (hl:low≤b) {cs:List Value} {esz:Nat}
  (hg:h.get b= .cells cs esz) {o:Nat} {vs vs':List Value} (hle:o+vs.length≤cs.length) (hok:vs.all Zal=true) (hrl:RL φ vs vs') :
  ∃ w',(storeCells ⟨l.blk,l.off+o,none⟩ vs').run P w= .ok () w'∧Goes low φ h w φ (h.set b (.cells (splice cs o vs) esz)) w':=by
 obtain ⟨c,e,fr,ho,hlen,hcap,hfit,hes,hz,hfr,hr⟩:=Zch r hb hg
 have hlen':vs'.length=vs.length:=hrl.1.symm
 have hone:∀ v ∈ vs',v.oneCell'=true:=by
  intro v hv
  obtain ⟨i,hi⟩:=List.getElem?_of_mem hv
  have hi':i < vs.length:=by have:=(List.getElem?_eq_some_iff.1 hi).1;omega
  exact (hrl.2 i _ v (List.getElem?_eq_getElem hi') hi).oneCell (List.all_eq_true.1 hok _ (List.getElem_mem hi'))
 have hrun:=Zb8 (P:=P) vs' 0 w l.blk (l.off+o) c e fr ho (hfr.imp id And.left) Ya hone
 have hrb:RB φ l (.cells (splice cs o vs) esz) (.cells (wr c (l.off+o) vs') e fr):=by
  refine ⟨by rw [ZcE hle,hlen],by rw [ZcO];exact hcap,hfit,hes,hz,by rw [ZcO];exact hfr,?_⟩
  intro i v hv
  rw [ZkH hle] at hv
  rw [ZiD _ _ _ _ Ya]
  by_cases hi:o≤i∧i < o+vs.length
  ·rw [if_pos hi] at hv
   have:l.off+o≤l.off+i∧l.off+i < l.off+o+vs'.length:=by omega
   rw [if_pos this,show l.off+i - (l.off+o)=i - o by omega]
   obtain ⟨y,hy,hrv⟩:=hrl.get hv
   exact ⟨List.all_eq_true.1 hok v (List.mem_of_getElem? hv),y,hy,hrv⟩
  ·rw [if_neg hi] at hv
   have:¬ (l.off+o≤l.off+i∧l.off+i < l.off+o+vs'.length):=by omega
   rw [if_neg this]
   exact hr i v hv
 refine ⟨_,hrun,?_⟩
 by_cases hnil:vs'=[]
 ·subst hnil
  have hv:vs=[]:=List.eq_nil_of_length_eq_zero (by simpa using hlen'.symm)
  subst hv
  simp only [if_true]
  have:=Goes.update (low:=low) r hb hl YQ YU (x:= .cells (splice cs o []) esz) (o:= .cells c e fr) (by simpa [wr] using hrb)
  have hw:World.putObj w l.blk (.cells c e fr)=w:=by
   unfold World.putObj
   congr 1
   apply Array.ext_getElem?
   intro i
   rw [Array.getElem?_setIfInBounds]
   by_cases hi:l.blk=i
   ·subst hi
    simp [ho]
    exact (Array.getElem?_eq_some_iff.1 ho).1
   ·simp [hi]
  rw [hw] at this
  exact this
 ·simp only [hnil,if_false,Nat.add_zero]
  exact Goes.update r hb hl YQ YU hrb
end Go.Im
namespace Go.Im
theorem RV.atomic {v:Value} (φ:Zac) (h:Im.atomic v=true):RV φ v v:=by
 unfold Im.atomic at h
 split at h<;>first | (cases h;done) | constructor
theorem ZhI {v:Value} (h:atomic v=true):Zal v=true:=by
 unfold atomic at h
 split at h<;>first | (cases h;done) | rfl
theorem ZbF {l:List Value} (h:l.all atomic=true):l.all Zal=true :=
 List.all_eq_true.2 fun x hx=>ZhI (List.all_eq_true.1 h x hx)
theorem RL.atomic {l:List Value} (φ:Zac) (h:l.all Im.atomic=true):RL φ l l:=by
 refine ⟨rfl,fun i x y hx hy=> ?_⟩
 rw [hx] at hy
 cases hy
 exact RV.atomic φ (List.all_eq_true.1 h x (List.mem_of_getElem? hx))
theorem RV.plain {v:Value} (φ:Zac) (h:Im.plain v=true):RV φ v v:=by
 unfold Im.plain at h
 split at h
 ·exact .agg _ _ rfl (RL.atomic φ h).2
 ·exact .tuple _ _ rfl (RL.atomic φ h).2
 ·exact RV.atomic φ h
theorem RV.cells {φ:Zac} {v v':Value} (h:RV φ v v') (hc:v.cells.toList.all Zal=true):RL φ v.cells.toList v'.cells.toList:=by
 cases h
 case agg xs ys hs hx=>exact ⟨hs,hx⟩
 case bad=>simp [Value.cells,Zal] at hc
 case tuple=>simp [Value.cells,Zal] at hc
 all_goals exact RL.cons (by constructor<;>assumption) (RL.nil φ)
theorem Zab {P:Program} {w:World} {t:TypeId} {d:TypeDesc} (h:P.underlying t=some d):(underlying t).run P w= .ok d w:=by
 simp [underlying,h]
theorem Zbg {P:Program} {w:World} {t:TypeId} {n:Nat} (h:Zaq P t=some n):(sizeOf t).run P w= .ok n w:=by
 unfold Zaq at h
 cases hi:P.info? t with
 | none=>simp [hi] at h
 | some i=>simp [hi] at h;simp [sizeOf,typeInfo,hi,h]
theorem Zb7 {P:Program} {w:World} {t:TypeId} {z:Value} (h:Zcb P t=some z):(zeroValue t).run P w= .ok z w:=by
 unfold Zcb at h
 cases hi:P.info? t with
 | none=>simp [hi] at h
 | some i=>simp [hi] at h;simp [zeroValue,typeInfo,hi,h]
theorem ZdV {P:Program} {w:World} {t:TypeId} {b:Bool} (h:tagg P t=some b):(isAgg t).run P w= .ok b w:=by
 unfold tagg at h
 cases hi:P.underlying t with
 | none=>simp [hi] at h
 | some d=>simp [hi] at h;subst h;cases d<;>simp [isAgg,Zab hi]
def ZaK (P:Program) (low:Nat) (φ:Zac) (h:Heap) (w:World) (s:Sem Value) (v:Value) (h':Heap):Prop :=
 ∃ ψ w' v',s.run P w= .ok v' w'∧Goes low φ h w ψ h' w'∧RV ψ v v'
theorem ZaK.of {P:Program} {low:Nat} {φ:Zac} {h:Heap} {w:World} (r:RH φ h w) {s:Sem Value} {v v':Value} (hs:s.run P w= .ok v' w) (hv:RV φ v v'):ZaK P low φ h w s v h :=
 ⟨φ,w,v',hs,Goes.refl r,hv⟩
section
variable {P:Program} {low:Nat} {φ:Zac} {h:Heap} {w:World}
theorem RV.ZnD (l:Loc) (o:Nat) (hs:l.off=0):RV (Zac.add φ h.size l) (.pointer (some ⟨h.size,o,none⟩)) (.pointer (some ⟨l.blk,o,none⟩)):=by
 have:=RV.ptr (φ:=Zac.add φ h.size l) h.size o l Y7
 rw [hs,Nat.zero_add] at this
 exact this
theorem Zib (r:RH φ h w) (e:TypeId) {v v':Value} {n:Nat} (hn:0 < n) (hsz:v.cells.size=n) (hok:v.cells.toList.all Zal=true) (hv:RV φ v v') :
  ZaK P low φ h w (do pure (.pointer (some (← newVar e v')))) (.pointer (some ⟨h.size,0,none⟩)) (h.push (.cells v.cells.toList n)):=by
 have hc:=hv.cells hok
 have hg:=Goes.Zcp (low:=low) r (ys:=v'.cells) (esz:=n) e (0,0) hn hok (by have:=hc.1;simp only [Array.length_toList] at this ⊢;omega) (.inl rfl)
  (fun i x hx=>by obtain ⟨y,hy,hr⟩:=hc.get hx;exact ⟨y,by simpa using hy,hr⟩)
 exact ⟨_,_,_,rfl,hg,RV.ZnD _ 0 rfl⟩
theorem Zji (r:RH φ h w) (e:TypeId) {z:Value} {n:Nat} (hz:Zcb P e=some z) (hn:0 < n) (hsz:z.cells.size=n) (hok:z.cells.toList.all atomic=true) :
  ZaK P low φ h w (Instr.alloc e true (.tuple #[])) (.pointer (some ⟨h.size,0,none⟩)) (h.push (.cells z.cells.toList n)):=by
 have hv:RV φ z z:=by
  cases z
  case agg cs=>exact .agg _ _ rfl (RL.atomic φ (by simpa [Value.cells] using hok)).2
  all_goals exact RV.atomic φ (by simpa [Value.cells] using hok)
 obtain ⟨ψ,w',v',h1,h2,h3⟩:=Zib (P:=P) (low:=low) r e hn hsz (ZbF hok) hv
 refine ⟨ψ,w',v',?_,h2,h3⟩
 simp only [Instr.alloc,Sem.run_bind,Zb7 hz,Result.andThen_ok]
 exact h1
theorem ZeE {b o:Nat} {v':Value} (hv:RV φ (.pointer (some ⟨b,o,none⟩)) v'):∃ l,φ b=some l∧v'= .pointer (some ⟨l.blk,l.off+o,none⟩):=by
 cases hv with
 | ptr _ _ l h=>exact ⟨l,h,rfl⟩
theorem Zkd (r:RH φ h w) {t:TypeId} {a a' v:Value} (ha:RV φ a a') (hi:Zej P h t a=some v):∃ v',(Instr.loadAt t a').run P w= .ok v' w∧RV φ v v':=by
 unfold Zej at hi
 split at hi
 ·rename_i b o
  obtain ⟨l,hb,rfl⟩:=ZeE ha
  split at hi
  ·rename_i cs esz hg
   split at hi
   ·rename_i hagg
    split at hi
    ·rename_i n hn
     split at hi
     ·rename_i hle
      cases hi
      obtain ⟨ys,h1,h2,h3⟩:=Zmy (P:=P) r hb hg hle
      refine ⟨.agg ys.toArray,?_,.agg _ _ (by simpa using h2.1) (by simpa using h2.2)⟩
      simp only [Instr.loadAt,Instr.sureAddr,loadVar,Sem.run_bind,Sem.run_pure,Result.andThen_ok,ZdV hagg,Zbg hn,if_true,h1]
     ·cases hi
    ·cases hi
   ·rename_i hagg
    obtain ⟨v',h1,h2⟩:=Zke r hb hg hi
    refine ⟨v',?_,h2⟩
    simp only [Instr.loadAt,Instr.sureAddr,loadVar,Sem.run_bind,Sem.run_pure,Result.andThen_ok,ZdV hagg,Bool.false_eq_true,if_false,run_load,h1]
   ·cases hi
  ·cases hi
 ·cases hi
theorem ZkY (r:RH φ h w) {t:TypeId} {a a' v:Value} (ha:RV φ a a') (hi:Zej P h t a=some v):ZaK P low φ h w (Instr.loadAt t a') v h:=by
 obtain ⟨v',h1,h2⟩:=Zkd r ha hi
 exact ZaK.of r h1 h2
theorem Zlh (r:RH φ h w) {t:TypeId} {a a' v v':Value} {h':Heap} (ha:RV φ a a') (hv:RV φ v v') (hi:Zcq P low h t a v=some h') :
  ∃ w',(Instr.storeAt t a' v').run P w= .ok () w'∧Goes low φ h w φ h' w':=by
 unfold Zcq at hi
 split at hi
 ·rename_i b o
  obtain ⟨l,hb,rfl⟩:=ZeE ha
  split at hi
  ·rename_i cs esz hg
   split at hi
   ·rename_i hc
    obtain ⟨hl,hn,hle,hok⟩:=hc
    cases hi
    have hcs:=hv.cells hok
    obtain ⟨w',h1,h2⟩:=Goes.write (P:=P) r hb hl hg (o:=o) (vs:=v.cells.toList) (by simpa using hle) hok hcs
    refine ⟨w',?_,h2⟩
    have hsz:v'.cells.size=v.cells.size:=by have:=hcs.1;simp only [Array.length_toList] at this;omega
    simp only [Instr.storeAt,Instr.sureAddr,storeVar,Sem.run_bind,Sem.run_pure,Result.andThen_ok,Zbg hn,hsz,ne_eq,not_true_eq_false,if_false,h1,Sem.run_ite]
   ·cases hi
  ·cases hi
 ·cases hi
theorem ZgK (r:RH φ h w) {t:TypeId} {cs cs':Array Value} {off:Nat} {v:Value} (hcs:RL φ cs.toList cs'.toList) (hi:Zjn P t cs off=some v) :
  ZaK P low φ h w (part t cs' off) v h:=by
 unfold Zjn at hi
 split at hi
 ·rename_i n hagg hn
  cases hi
  have:=(hcs.drop off).take n
  refine ZaK.of r (v':= .agg (cs'.extract off (off+n))) ?_ (.agg _ _ ?_ ?_)
  ·simp [part,ZdV hagg,Zbg hn]
  ·have h1:=this.1
   simp only [Array.toList_extract,List.extract_eq_take_drop,Nat.add_sub_cancel_left] at h1 ⊢
   exact h1
  ·have h1:=this.2
   simpa only [Array.toList_extract,List.extract_eq_take_drop,Nat.add_sub_cancel_left] using h1
 ·rename_i hagg
  obtain ⟨y,hy,hr⟩:=hcs.get Yae
  refine ZaK.of r (v':=y) ?_ hr
  simp [part,ZdV hagg,show cs'[off]? =some y by simpa using hy]
 ·cases hi
theorem RL.set {xs ys:List Value} (hl:RL φ xs ys) (i:Nat) {x y:Value} (hv:RV φ x y):RL φ (xs.set i x) (ys.set i y):=by
 refine ⟨by simp [hl.1],fun j a b ha hb=> ?_⟩
 rw [List.getElem?_set] at ha hb
 by_cases e:i=j
 ·subst e
  by_cases hi:i < xs.length
  ·have hi':i < ys.length:=by rw [← hl.1];exact hi
   simp [hi] at ha;simp [hi'] at hb
   subst ha;subst hb
   exact hv
  ·simp [hi] at ha
 ·simp [e] at ha hb
  exact hl.2 j a b ha hb
theorem Zkm:∀ (vs vs':List Value) (k off:Nat) (c c':Array Value),RL φ vs vs'→RL φ c.toList c'.toList →
  RL φ ((vs.zipIdx k).foldl (fun (cs:Array Value) (x:Value × Nat)=>cs.setIfInBounds (off+x.2) x.1) c).toList
   ((vs'.zipIdx k).foldl (fun (cs:Array Value) (x:Value × Nat)=>cs.setIfInBounds (off+x.2) x.1) c').toList
 | [],vs',k,off,c,c',hv,hc=>by
   have:vs'=[]:=List.eq_nil_of_length_eq_zero hv.1.symm
   subst this
   exact hc
 | v::vs,[],k,off,c,c',hv,hc=>by have:=hv.1;simp at this
 | v::vs,v'::vs',k,off,c,c',hv,hc=>by
   simp only [List.zipIdx_cons,List.foldl_cons]
   refine Zkm vs vs' (k+1) off _ _ hv.tail.2 ?_
   simp only [Array.toList_setIfInBounds]
   exact RL.set hc _ hv.tail.1
def RP (φ:Zac) (ps qs:List (Nat × Value)):Prop:=ps.length=qs.length∧∀ (i:Nat) p q,ps[i]? =some p→qs[i]? =some q→p.1=q.1∧RV φ p.2 q.2∧p.2.cells.toList.all Zal=true
theorem Zfr (place:Nat→Option (Nat × Nat)):∀ (ps qs:List (Nat × Value)) (c c' r:Array Value),RP φ ps qs→RL φ c.toList c'.toList→Instr.fill place c ps=some r →
  ∃ r',Instr.fill place c' qs=some r'∧RL φ r.toList r'.toList
 | [],qs,c,c',r,hp,hc,hf=>by
   have:qs=[]:=List.eq_nil_of_length_eq_zero hp.1.symm
   subst this
   simp only [Instr.fill] at hf ⊢
   cases hf
   exact ⟨c',rfl,hc⟩
 | (i,v)::ps,[],c,c',r,hp,hc,hf=>by have:=hp.1;simp at this
 | (i,v)::ps,(j,u)::qs,c,c',r,hp,hc,hf=>by
   obtain ⟨hij,hvu,hok⟩:=hp.2 0 _ _ rfl rfl
   simp only at hij hvu hok
   subst hij
   have hcs:=hvu.cells hok
   have hsz:u.cells.size=v.cells.size:=by have:=hcs.1;simp only [Array.length_toList] at this;omega
   have hsc:c'.size=c.size:=by have:=hc.1;simp only [Array.length_toList] at this;omega
   simp only [Instr.fill] at hf ⊢
   cases hpl:place i with
   | none=>simp [hpl] at hf
   | some p =>
     obtain ⟨off,size⟩:=p
     simp only [hpl] at hf ⊢
     rw [hsz,hsc]
     split at hf
     ·cases hf
     ·rename_i hcond
      rw [if_neg hcond]
      refine Zfr place ps qs _ _ r ⟨by have:=hp.1;simpa using this,fun k p q a b=>hp.2 (k+1) p q (by simpa using a) (by simpa using b)⟩ ?_ hf
      have hfp:=Zkm v.cells.toList u.cells.toList 0 off c c' hcs hc
      rw [← Array.foldl_toList,← Array.foldl_toList,Array.toList_zipIdx,Array.toList_zipIdx]
      exact hfp
theorem Zo8 {ρ ρ':Operand→Value} (hρ:∀ x,RV φ (ρ x) (ρ' x)) (parts:Array (Nat × Operand)) (hok:parts.toList.all (fun p=>(ρ p.2).cells.toList.all Zal)=true) :
  RP φ (parts.map fun (i,x)=>(i,ρ x)).toList (parts.map fun (i,x)=>(i,ρ' x)).toList:=by
 refine ⟨by simp,fun i p q hp hq=> ?_⟩
 simp only [Array.toList_map,List.getElem?_map,Option.map_eq_some_iff] at hp hq
 obtain ⟨⟨a,x⟩,ha,rfl⟩:=hp
 obtain ⟨⟨b,y⟩,hb,rfl⟩:=hq
 rw [ha] at hb
 cases hb
 exact ⟨rfl,hρ x,List.all_eq_true.1 hok _ (List.mem_of_getElem? ha)⟩
theorem Zjg (r:RH φ h w) {ρ ρ':Operand→Value} (hρ:∀ x,RV φ (ρ x) (ρ' x)) {t:TypeId} {parts:Array (Nat × Operand)} {z v:Value} (hz:Zcb P t=some z)
  (hza:z.cells.toList.all atomic=true) (hok:parts.toList.all (fun p=>(ρ p.2).cells.toList.all Zal)=true)
  (hi:(P.built t (parts.map fun (i,x)=>(i,ρ x)).toList).map Value.agg=some v):ZaK P low φ h w (Instr.build t (parts.map fun (i,x)=>(i,ρ' x))) v h:=by
 obtain ⟨cells,hb,rfl⟩:=Option.map_eq_some_iff.1 hi
 have hrp:=Zo8 hρ parts hok
 have key:∃ cells',P.built t (parts.map fun (i,x)=>(i,ρ' x)).toList=some cells'∧RL φ cells.toList cells'.toList:=by
  unfold Program.built at hb ⊢
  unfold Zcb at hz
  cases hit:P.info? t with
  | none=>simp [hit] at hz
  | some it =>
    simp [hit] at hz
    simp only [hit,hz] at hb ⊢
    split at hb
    ·rename_i it' len e heq hu
     cases heq
     simp only [hz] at hb ⊢
     cases hie:P.info? e with
     | none=>simp [hie] at hb
     | some ie =>
       simp only [hie] at hb ⊢
       exact Zfr _ _ _ _ _ _ hrp (RL.atomic φ hza) hb
    ·rename_i it' fields heq hu
     cases heq
     simp only [hz] at hb ⊢
     split at hb
     ·rename_i z' places hz' hp
      cases hz'
      exact Zfr _ _ _ _ _ _ hrp (RL.atomic φ hza) hb
     ·cases hb
    ·cases hb
 obtain ⟨cells',hb',hr'⟩:=key
 exact ZaK.of r (run_build w t _ cells' hb') (.agg _ _ hr'.1 hr'.2)
end
end Go.Im
namespace Go.Im
theorem RH.kill {φ:Zac} {h:Heap} {w:World} (r:RH φ h w) (b:Nat):RH φ (h.set b .dead) w:=by
 refine ⟨fun c l hc=>r.low c l hc,fun c l hc=> ?_,fun c d l m hc hd lc ld hf e=> ?_⟩
 ·obtain ⟨o,ho,hr⟩:=r.blk c l hc
  rw [Heap.Zae]
  by_cases e:c=b
  ·exact ⟨o,ho,by simp [e];cases o<;>simp [RB]⟩
  ·exact ⟨o,ho,by simpa [e] using hr⟩
 ·rw [Heap.Zae] at lc ld
  rw [Heap.Zae,Heap.Zae] at hf
  have e1:c≠b:=fun e'=>by simp [e'] at lc
  have e2:d≠b:=fun e'=>by simp [e'] at ld
  exact r.inj c d l m hc hd (by simpa [e1] using lc) (by simpa [e2] using ld) (by simpa [e1,e2] using hf) e
theorem Goes.kill {low:Nat} {φ:Zac} {h:Heap} {w:World} (r:RH φ h w) (b:Nat):Goes low φ h w φ (h.set b .dead) w :=
 ⟨fun _ _ h=>h,fun _ _=>rfl,r.kill b,by simp,fun c l hc hl=>by have:=(r.low c l hl).1;omega,rfl,rfl,rfl,Nat.le_refl _,fun _ _ _=>rfl⟩
theorem Goes.take {low:Nat} {φ:Zac} {h:Heap} {w:World} (r:RH φ h w) {b:Nat} {l l2:Loc} (hb:φ b=some l) (hl:low≤b) (hlive:h.get b≠ .dead) (hfx:(h.get b).isFixed=false) (h2:l2.blk=l.blk)
  {x:Blk} {o:Obj} (hrb:RB (Zac.add φ h.size l2) l2 x o):Goes low φ h w (Zac.add φ h.size l2) ((h.set b .dead).push x) (World.putObj w l.blk o):=by
 have hlt:=(r.low b l hb).2
 have hext:=Zac.ZdO r l2
 have hself:(Zac.add φ h.size l2) h.size=some l2:=Y7
 have hof:∀ c m,(Zac.add φ h.size l2) c=some m→(c=h.size∧m=l2)∨(c < h.size∧φ c=some m∧m.blk < w.heap.size):=by
  intro c m hm
  by_cases hc:c=h.size
  ·subst hc;rw [hself] at hm;cases hm;exact .inl ⟨rfl,rfl⟩
  ·have hm':φ c=some m:=by simpa [Zac.add,hc] using hm
   exact .inr ⟨(r.low c m hm').1,hm',(r.low c m hm').2⟩
 refine ⟨hext,fun c hc=>by have:¬ c=h.size:=by omega
                           simp [Zac.add,this],⟨?_,?_,?_⟩,by simp,?_,rfl,rfl,rfl,by simp [World.putObj],?_⟩
 ·intro c m hm
  rcases hof c m hm with ⟨rfl,rfl⟩ | ⟨g1,g2,g3⟩
  ·simp [World.putObj,h2,hlt]
  ·simp [World.putObj];omega
 ·intro c m hm
  rw [Heap.Zam,Heap.size_set,Heap.Zae,Za5 _ _ _ _ hlt]
  rcases hof c m hm with ⟨rfl,rfl⟩ | ⟨g1,g2,g3⟩
  ·exact ⟨o,by simp [h2],by simpa using hrb⟩
  ·have hne:¬ c=h.size:=by omega
   simp only [hne,if_false]
   obtain ⟨o',ho',hr'⟩:=r.blk c m g2
   by_cases hcb:c=b
   ·subst hcb
    rw [hb] at g2
    cases g2
    exact ⟨o,by simp,by simp;cases o<;>simp [RB]⟩
   ·by_cases hm':m.blk=l.blk
    ·have hdead:h.get c= .dead:=Classical.byContradiction fun hd=>hcb (r.inj c b m l g2 hb hd hlive (.inr hfx) hm')
     exact ⟨o,by simp [hm'],by simp only [hcb,if_false,hdead];cases o<;>simp [RB]⟩
    ·exact ⟨o',by simp [hm',ho'],by simpa [hcb] using hr'.mono hext⟩
 ·intro c d m m' hm hm' hc hd hf e
  rw [Heap.Zam,Heap.size_set,Heap.Zae] at hc hd
  rw [Heap.Zam,Heap.Zam,Heap.size_set,Heap.Zae,Heap.Zae] at hf
  rcases hof c m hm with ⟨rfl,rfl⟩ | ⟨g1,g2,g3⟩<;>rcases hof d m' hm' with ⟨rfl,rfl⟩ | ⟨k1,k2,k3⟩
  ·rfl
  ·exfalso
   have hne:¬ d=h.size:=Ya
   simp only [hne,if_false] at hd
   by_cases hdb:d=b
   ·simp [hdb] at hd
   ·simp only [hdb,if_false] at hd
    exact hdb (r.inj d b m' l k2 hb hd hlive (.inr hfx) Ya)
  ·exfalso
   have hne:¬ c=h.size:=Ya
   simp only [hne,if_false] at hc
   by_cases hcb:c=b
   ·simp [hcb] at hc
   ·simp only [hcb,if_false] at hc
    exact hcb (r.inj c b m l g2 hb hc hlive (.inr hfx) Ya)
  ·have a1:¬ c=h.size:=by omega
   have a2:¬ d=h.size:=Ya
   simp only [a1,a2,if_false] at hc hd hf
   have e1:c≠b:=fun e'=>by simp [e'] at hc
   have e2:d≠b:=fun e'=>by simp [e'] at hd
   exact r.inj c d m m' g2 k2 (by simpa [e1] using hc) (by simpa [e2] using hd) (by simpa [e1,e2] using hf) e
 ·intro c m hc hm
  rcases hof c m hm with ⟨rfl,rfl⟩ | ⟨g1,g2,g3⟩
  ·exact .inr ⟨b,l,hl,hb,h2.symm⟩
  ·omega
 ·intro i hi hn
  rw [Za5 _ _ _ _ hlt]
  have:¬ i=l.blk:=fun e=>hn b l hl hb e.symm
  simp [this]
theorem ZiA (need:Nat):∀ (n c:Nat),256≤c→c≤2*need→Builtin.growBy need n c≤2*need
 | 0,c,_,h=>h
 | n+1,c,h0,h=>by
   unfold Builtin.growBy
   split
   ·exact h
   ·exact ZiA need n _ Ya Ya
theorem ZeI (need cap:Nat) (h:cap < need):Builtin.nextslicecap need cap≤2*need:=by
 unfold Builtin.nextslicecap
 split
 ·omega
 ·split
  ·omega
  ·exact ZiA need 4 cap Ya Ya
theorem ZbI {α:Type} (l:List α) (hl:0 < l.length):∀ (n i:Nat),i < n*l.length→(List.replicate n l).flatten[i]? =l[i%l.length]?
 | 0,i,h=>by simp at h
 | n+1,i,h=>by
   rw [List.replicate_succ,List.flatten_cons]
   by_cases hi:i < l.length
   ·rw [List.getElem?_append_left hi,Nat.mod_eq_of_lt hi]
   ·rw [List.getElem?_append_right Ya,ZbI l hl n (i - l.length) (by rw [Nat.succ_mul] at h;omega)]
    congr 1
    exact (Nat.mod_eq_sub_mod Ya).symm
theorem Zay {α:Type} (l:List α) (n:Nat):(List.replicate n l).flatten.length=n*l.length:=by
 simp [List.length_flatten]
theorem ZdA (z:Array Value) (hz:0 < z.size) (n:Nat):((Array.range (n*z.size)).map fun i=>z[i%z.size]!)=(List.replicate n z.toList).flatten.toArray:=by
 apply Array.ext_getElem?
 intro i
 by_cases hi:i < n*z.size
 ·have h1:(List.replicate n z.toList).flatten[i]? =z.toList[i%z.size]? :=by
   have:=ZbI z.toList (by simpa using hz) n i Yae
   simpa using this
  have hm:i%z.size < z.size:=Nat.mod_lt _ hz
  rw [show (List.replicate n z.toList).flatten.toArray[i]? =z.toList[i%z.size]? from by rw [← h1];simp]
  simp [hi,hm]
 ·have h1:(List.replicate n z.toList).flatten.length≤i:=by rw [Zay];simp;omega
  rw [Array.getElem?_eq_none Yl]
  simp [List.getElem?_eq_none h1]
theorem ZeZ (z:Array Value) (hz:0 < z.size) (n:Nat):Builtin.zeroCells z n=(List.replicate n z.toList).flatten.toArray:=by
 unfold Builtin.zeroCells
 exact ZdA z hz n
theorem all_replicate {p:Value→Bool} {l:List Value} (h:l.all p=true) (n:Nat):(List.replicate n l).flatten.all p=true:=by
 induction n with
 | zero=>rfl
 | succ n ih=>rw [List.replicate_succ,List.flatten_cons,List.all_append,h,ih];rfl
structure Zc6 (P:Program) (w:World) (i:TypeInfo) (xT:TypeId) (x:Value) (n:Nat) (new:List Value):Prop where
 room:∀ (sT e ty:TypeId) (a:Addr) (sLen sCap:Nat) (w':World),P.underlying sT=some (.slice e)→P.info? e=some i→sLen+n≤sCap →
  (storeCells (a.add (sLen*i.size)) new).run P w= .ok () w'→(Builtin.append_ #[sT,xT] ty #[.slice (some a) sLen sCap,x]).run P w= .ok (.slice (some a) (sLen+n) sCap) w'
 none0:∀ (sT e ty:TypeId),P.underlying sT=some (.slice e)→P.info? e=some i→n=0→(Builtin.append_ #[sT,xT] ty #[.slice none 0 0,x]).run P w= .ok (.slice none 0 0) w
 grow:∀ (sT e ty:TypeId) (base:Option Addr) (sLen sCap:Nat) (z:Value) (old:List Value),P.underlying sT=some (.slice e)→P.info? e=some i→i.zero=some z →
  ¬ sLen+n≤sCap→sLen+n≤4611686018427387904→2*(sLen+n)*i.bytes≤140737488355328 →
  (∀ D,(Builtin.firstCells i.size sLen (.slice base sLen sCap)).run P { w with drawn:=D }= .ok old.toArray { w with drawn:=D }) →
  ∃ newCap,sLen+n≤newCap∧(Builtin.append_ #[sT,xT] ty #[.slice base sLen sCap,x]).run P w =
    .ok (.slice (some ⟨w.heap.size,0,none⟩) (sLen+n) newCap)
     { { w with drawn:=w.drawn+1 } with heap:=w.heap.push (.cells (old.toArray++new.toArray++Builtin.zeroCells z.cells (newCap - (sLen+n))) e) }
theorem Zc6.string {P:Program} {w:World} {i:TypeInfo} {xT:TypeId} (hxt:P.underlying xT=some .string) (t:ByteArray) (hsz:i.size=1) :
  Zc6 P w i xT (.string t) t.size (t.data.toList.map fun b=> .int .u8 b.toNat):=by
 have happ:∀ W,(Builtin.firstCells i.size t.size (.string t)).run P W= .ok (t.data.toList.map fun b=>Value.int .u8 b.toNat).toArray W:=by
  intro W
  simp only [Builtin.firstCells,Sem.run_pure]
  rw [show t.extract 0 t.size=t from by simp]
  congr 1
  apply Array.ext'
  simp
 constructor
 ·intro sT e ty a sLen sCap w' ht hi hroom hst
  have hs:∀ W,(sizeOf e).run P W= .ok i.size W:=fun W=>by simp [sizeOf,typeInfo,hi]
  unfold Builtin.append_
  simp only [List.getElem?_toArray,List.getElem?_cons_zero,List.getElem?_cons_succ,Sem.run_bind,Zab ht,Result.andThen_ok,hs,Zab hxt,Sem.run_pure,Bool.false_eq_true,if_false,Builtin.lenOf,
   Sem.run_ite,hroom,if_true,Bool.not_false,happ,hst]
 ·intro sT e ty ht hi h0
  have hs:∀ W,(sizeOf e).run P W= .ok i.size W:=fun W=>by simp [sizeOf,typeInfo,hi]
  have hle:0+t.size≤0:=Ya
  have he:0+t.size=0:=Ya
  unfold Builtin.append_
  simp only [List.getElem?_toArray,List.getElem?_cons_zero,List.getElem?_cons_succ,Sem.run_bind,Zab ht,Result.andThen_ok,hs,Zab hxt,Sem.run_pure,Bool.false_eq_true,if_false,Builtin.lenOf,
   Sem.run_ite,hle,if_true,Bool.not_false,happ]
  rw [he]
 ·intro sT e ty base sLen sCap z old ht hi hz hroom hbig hby hold
  have hs:∀ W,(sizeOf e).run P W= .ok i.size W:=fun W=>by simp [sizeOf,typeInfo,hi]
  have hti:∀ W,(typeInfo e).run P W= .ok i W:=fun W=>by simp [typeInfo,hi]
  have hzv:∀ W,(zeroValue e).run P W= .ok z W:=fun W=>Zb7 (by simp [Zcb,hi,hz])
  have h1:¬ (((sLen+t.size:Nat):Int) > IntKind.i64.max∧(False∨i.bytes=0)):=by
   have:IntKind.i64.max=9223372036854775807:=by decide +kernel
   rw [this];omega
  have h2:¬ (Builtin.nextslicecap (sLen+t.size) sCap*i.bytes > 2 ^ 48):=by
   have:=ZeI (sLen+t.size) sCap Ya
   have h3:=Nat.mul_le_mul_right i.bytes this
   have:(2:Nat) ^ 48=281474976710656:=by decide
   omega
  refine ⟨(Question.appendCap (sLen+t.size) sCap e).cut (w.tape w.drawn (.appendCap (sLen+t.size) sCap e)),by simp [Question.cut],?_⟩
  unfold Builtin.append_
  simp only [List.getElem?_toArray,List.getElem?_cons_zero,List.getElem?_cons_succ,Sem.run_bind,Zab ht,Result.andThen_ok,hs,hti,Zab hxt,Sem.run_pure,Bool.false_eq_true,if_false,Builtin.lenOf,
   Sem.run_ite,hroom,if_true,Bool.not_false,happ,h1,h2,hold,hzv,run_choose,Question.forced,run_askRoom,newRow,run_newObj]
theorem Zc6.slice {P:Program} {w:World} {i:TypeInfo} {xT e':TypeId} (hxt:P.underlying xT=some (.slice e')) (a':Option Addr) (n c':Nat) (new:List Value)
  (happ:∀ D,(Builtin.firstCells i.size n (.slice a' n c')).run P { w with drawn:=D }= .ok new.toArray { w with drawn:=D }):Zc6 P w i xT (.slice a' n c') n new:=by
 have happ0:(Builtin.firstCells i.size n (.slice a' n c')).run P w= .ok new.toArray w:=happ w.drawn
 constructor
 ·intro sT e ty a sLen sCap w' ht hi hroom hst
  have hs:∀ W,(sizeOf e).run P W= .ok i.size W:=fun W=>by simp [sizeOf,typeInfo,hi]
  unfold Builtin.append_
  simp only [List.getElem?_toArray,List.getElem?_cons_zero,List.getElem?_cons_succ,Sem.run_bind,Zab ht,Result.andThen_ok,hs,Zab hxt,Sem.run_pure,Bool.false_eq_true,if_false,Builtin.lenOf,
   Sem.run_ite,hroom,if_true,Bool.not_false,happ0,hst]
 ·intro sT e ty ht hi h0
  have hs:∀ W,(sizeOf e).run P W= .ok i.size W:=fun W=>by simp [sizeOf,typeInfo,hi]
  have hle:0+n≤0:=Ya
  have he:0+n=0:=Ya
  unfold Builtin.append_
  simp only [List.getElem?_toArray,List.getElem?_cons_zero,List.getElem?_cons_succ,Sem.run_bind,Zab ht,Result.andThen_ok,hs,Zab hxt,Sem.run_pure,Bool.false_eq_true,if_false,Builtin.lenOf,
   Sem.run_ite,hle,if_true,Bool.not_false,happ0]
  rw [he]
 ·intro sT e ty base sLen sCap z old ht hi hz hroom hbig hby hold
  have hs:∀ W,(sizeOf e).run P W= .ok i.size W:=fun W=>by simp [sizeOf,typeInfo,hi]
  have hti:∀ W,(typeInfo e).run P W= .ok i W:=fun W=>by simp [typeInfo,hi]
  have hzv:∀ W,(zeroValue e).run P W= .ok z W:=fun W=>Zb7 (by simp [Zcb,hi,hz])
  have h1:¬ (((sLen+n:Nat):Int) > IntKind.i64.max∧(False∨i.bytes=0)):=by
   have:IntKind.i64.max=9223372036854775807:=by decide +kernel
   rw [this];omega
  have h2:¬ (Builtin.nextslicecap (sLen+n) sCap*i.bytes > 2 ^ 48):=by
   have:=ZeI (sLen+n) sCap Ya
   have h3:=Nat.mul_le_mul_right i.bytes this
   have:(2:Nat) ^ 48=281474976710656:=by decide
   omega
  refine ⟨(Question.appendCap (sLen+n) sCap e).cut (w.tape w.drawn (.appendCap (sLen+n) sCap e)),by simp [Question.cut],?_⟩
  unfold Builtin.append_
  simp only [List.getElem?_toArray,List.getElem?_cons_zero,List.getElem?_cons_succ,Sem.run_bind,Zab ht,Result.andThen_ok,hs,hti,Zab hxt,Sem.run_pure,Bool.false_eq_true,if_false,Builtin.lenOf,
   Sem.run_ite,hroom,if_true,Bool.not_false,happ,h1,h2,hold,hzv,run_choose,Question.forced,run_askRoom,newRow,run_newObj]
theorem Zc6.zeros {P:Program} {w:World} {i:TypeInfo} {xT:TypeId} {kd k:IntKind} (hxt:P.underlying xT=some (.int kd)) (m:Int) (h0:0≤m) (hm:m < 281474976710656) (hb:m*i.bytes≤281474976710656)
  {z:Value} (hz:i.zero=some z) (hzs:z.cells.size=i.size) (hs0:0 < i.size):Zc6 P w i xT (.int k m) m.toNat (List.replicate m.toNat z.cells.toList).flatten:=by
 have hwr:IntKind.i64.wrap m=m:=Y0
 have n1:¬ m < 0:=Ya
 have n2:¬ (m*(i.bytes:Int) > 2 ^ 48):=by
  have:(2:Int) ^ 48=281474976710656:=by decide
  omega
 have hzc:=ZeZ z.cells Ya m.toNat
 have happ:∀ e,P.info? e=some i→∀ W,(if m.toNat*i.size=0 then (Pure.pure #[]:Sem (Array Value)) else do let z ← zeroValue e;Pure.pure (Builtin.zeroCells z.cells m.toNat)).run P W= .ok (List.replicate m.toNat z.cells.toList).flatten.toArray W:=by
  intro e hi W
  have hzv:∀ W,(zeroValue e).run P W= .ok z W:=fun W=>Zb7 (by simp [Zcb,hi,hz])
  by_cases hm0:m.toNat*i.size=0
  ·have:m.toNat=0:=by
    rcases Nat.mul_eq_zero.1 hm0 with h | h<;>omega
   simp [this]
  ·simp [hm0,hzv,hzc]
 constructor
 ·intro sT e ty a sLen sCap w' ht hi hroom hst
  have hs:∀ W,(sizeOf e).run P W= .ok i.size W:=fun W=>by simp [sizeOf,typeInfo,hi]
  have hti:∀ W,(typeInfo e).run P W= .ok i W:=fun W=>by simp [typeInfo,hi]
  have ha:=happ e hi
  unfold Builtin.append_
  simp only [List.getElem?_toArray,List.getElem?_cons_zero,List.getElem?_cons_succ,Sem.run_bind,Zab ht,Result.andThen_ok,hs,hti,Zab hxt,Sem.run_pure,Bool.false_eq_true,if_false,asInt,asIntOf,
   hwr,n1,n2,if_true,Bool.not_true]
  rw [if_pos hroom]
  simp only [Sem.run_bind,ha,Result.andThen_ok,hst,Sem.run_pure]
 ·intro sT e ty ht hi hm0
  have hs:∀ W,(sizeOf e).run P W= .ok i.size W:=fun W=>by simp [sizeOf,typeInfo,hi]
  have hti:∀ W,(typeInfo e).run P W= .ok i W:=fun W=>by simp [typeInfo,hi]
  have ha:=happ e hi
  have hle:0+m.toNat≤0:=Ya
  have he:0+m.toNat=0:=Ya
  unfold Builtin.append_
  simp only [List.getElem?_toArray,List.getElem?_cons_zero,List.getElem?_cons_succ,Sem.run_bind,Zab ht,Result.andThen_ok,hs,hti,Zab hxt,Sem.run_pure,Bool.false_eq_true,if_false,asInt,asIntOf,
   hwr,n1,n2,if_true,Bool.not_true]
  rw [if_pos hle]
  simp only [Sem.run_bind,ha,Result.andThen_ok,Sem.run_pure]
  rw [he]
 ·intro sT e ty base sLen sCap z' old ht hi hz' hroom hbig hby hold
  rw [hz] at hz'
  cases hz'
  have hs:∀ W,(sizeOf e).run P W= .ok i.size W:=fun W=>by simp [sizeOf,typeInfo,hi]
  have hti:∀ W,(typeInfo e).run P W= .ok i W:=fun W=>by simp [typeInfo,hi]
  have hzv:∀ W,(zeroValue e).run P W= .ok z W:=fun W=>Zb7 (by simp [Zcb,hi,hz])
  have ha:=happ e hi
  have h1:¬ (((sLen+m.toNat:Nat):Int) > IntKind.i64.max∧(True∨i.bytes=0)):=by
   have:IntKind.i64.max=9223372036854775807:=by decide +kernel
   rw [this];omega
  have h2:¬ (Builtin.nextslicecap (sLen+m.toNat) sCap*i.bytes > 2 ^ 48):=by
   have:=ZeI (sLen+m.toNat) sCap Ya
   have h3:=Nat.mul_le_mul_right i.bytes this
   have:(2:Nat) ^ 48=281474976710656:=by decide
   omega
  refine ⟨(Question.appendCap (sLen+m.toNat) sCap e).cut (w.tape w.drawn (.appendCap (sLen+m.toNat) sCap e)),by simp [Question.cut],?_⟩
  unfold Builtin.append_
  simp only [List.getElem?_toArray,List.getElem?_cons_zero,List.getElem?_cons_succ,Sem.run_bind,Zab ht,Result.andThen_ok,hs,hti,Zab hxt,Sem.run_pure,Bool.false_eq_true,if_false,asInt,asIntOf,
   hwr,n1,n2,if_true,Bool.not_true]
  rw [if_neg hroom]
  simp only [Sem.run_bind,hti,Result.andThen_ok,h1,h2,if_false,run_choose,Question.forced,Bool.false_eq_true,run_askRoom,hold,ha,hzv,newRow,run_newObj,Sem.run_pure]
section
variable {P:Program} {low:Nat} {φ:Zac} {h:Heap} {w:World}
theorem Zdx {a:Option Addr} {n c:Nat} {v':Value} (hv:RV φ (.slice a n c) v'):∃ a' c',v'= .slice a' n c':=by
 cases hv<;>exact ⟨_,_,rfl⟩
theorem Zcr (r:RH φ h w) {size:Nat} {a:Option Addr} {n c:Nat} {v':Value} (hv:RV φ (.slice a n c) v') {cs:List Value} (hi:Zak h size (.slice a n c)=some cs) :
  ∃ a' c' cs',v'= .slice a' n c'∧RL φ cs cs'∧cs.length=n*size∧cs.all Zal=true∧∀ D,(Builtin.firstCells size n (.slice a' n c')).run P { w with drawn:=D }= .ok cs'.toArray { w with drawn:=D }:=by
 have hzero:∀ (a':Option Addr) (c':Nat) D,(Builtin.firstCells size 0 (.slice a' 0 c')).run P { w with drawn:=D }= .ok #[] { w with drawn:=D }:=by
  intro a' c' D
  cases a'<;>simp [Builtin.firstCells,loadCells,loadCellsFrom]
 unfold Zak at hi
 split at hi
 ·rename_i heq
  cases heq
  cases hi
  cases hv
  exact ⟨none,0,[],rfl,RL.nil φ,by simp,rfl,fun D=>hzero _ _ D⟩
 ·rename_i b o n' c' heq
  cases heq
  split at hi
  ·rename_i cells esz hg
   split at hi
   ·rename_i hc
    obtain ⟨rfl,hle⟩:=hc
    cases hi
    have hlen:((cells.drop o).take (n*esz)).length=n*esz:=Yl
    have hall:∀ l,φ b=some l→((cells.drop o).take (n*esz)).all Zal=true:=by
     intro l hb
     obtain ⟨_,_,_,_,_,_,_,_,hr⟩:=Zcx r hb hg
     refine List.all_eq_true.2 fun x hx=> ?_
     obtain ⟨i,hi⟩:=List.getElem?_of_mem (List.mem_of_mem_drop (List.mem_of_mem_take hx))
     exact (hr i x hi).1
    have main:∀ l ro cap,φ b=some l→ro=l.off+o→∃ cs',RL φ ((cells.drop o).take (n*esz)) cs' ∧
      ∀ D,(Builtin.firstCells esz n (.slice (some ⟨l.blk,ro,none⟩) n cap)).run P { w with drawn:=D }= .ok cs'.toArray { w with drawn:=D }:=by
     intro l ro cap hb hro
     subst hro
     obtain ⟨ys,h1,h2,h3⟩:=ZbX P r hb hg hle
     exact ⟨ys,h2,fun D=>h1 D⟩
    cases hv with
    | known _ _ _ _ l hb =>
      obtain ⟨cs',g1,g2⟩:=main l _ c hb rfl
      exact ⟨_,_,cs',rfl,g1,hlen,hall l hb,g2⟩
    | unknown _ _ _ c' l hb =>
      obtain ⟨cs',g1,g2⟩:=main l _ c' hb rfl
      exact ⟨_,_,cs',rfl,g1,hlen,hall l hb,g2⟩
    | spent _ _ l a' hb =>
      exact ⟨_,_,[],rfl,by simpa using RL.nil φ,hlen,hall l hb,fun D=>hzero _ _ D⟩
    | void _ _ a' =>
      exact ⟨_,_,[],rfl,by simpa using RL.nil φ,hlen,by simp,fun D=>hzero _ _ D⟩
   ·split at hi
    ·rename_i hn
     subst hn
     cases hi
     obtain ⟨a',c',rfl⟩:=Zdx hv
     exact ⟨a',c',[],rfl,RL.nil φ,by simp,rfl,fun D=>hzero _ _ D⟩
    ·cases hi
  ·split at hi
   ·rename_i hn
    subst hn
    cases hi
    obtain ⟨a',c',rfl⟩:=Zdx hv
    exact ⟨a',c',[],rfl,RL.nil φ,by simp,rfl,fun D=>hzero _ _ D⟩
   ·cases hi
 ·cases hi
theorem ZmS (r:RH φ h w) {i:TypeInfo} {xT:TypeId} {xt:TypeDesc} (hxt:P.underlying xT=some xt) {x x':Value} (hx:RV φ x x') {n:Nat} {new:List Value} (hn:Zlf P h i xt x=some (n,new))
  (hs0:0 < i.size):∃ new',Zc6 P w i xT x' n new'∧RL φ new new'∧new.length=n*i.size∧new.all Zal=true:=by
 unfold Zlf at hn
 split at hn
 ·rename_i t
  cases hx
  split at hn
  ·rename_i hsz
   cases hn
   have hat:(t.data.toList.map fun b=>Value.int .u8 b.toNat).all atomic=true:=by
    rw [List.all_eq_true]
    intro x hx
    obtain ⟨b,_,rfl⟩:=List.mem_map.1 hx
    rfl
   exact ⟨_,Zc6.string hxt t hsz,RL.atomic φ hat,by simp [hsz],ZbF hat⟩
  ·cases hn
 ·rename_i k k' m
  cases hx
  split at hn
  ·rename_i hc
   obtain ⟨h0,h1,h2⟩:=hc
   split at hn
   ·rename_i z hz
    split at hn
    ·rename_i hz2
     obtain ⟨hat,hzs⟩:=hz2
     cases hn
     exact ⟨_,Zc6.zeros hxt m h0 h1 h2 hz hzs hs0,RL.atomic φ (all_replicate hat _),by rw [Zay];simp [hzs],ZbF (all_replicate hat _)⟩
    ·cases hn
   ·cases hn
  ·cases hn
 ·rename_i e' a n' c
  split at hn
  ·rename_i l hl
   cases hn
   obtain ⟨a',c',cs',rfl,h1,h2,h3,h4⟩:=Zcr r hx hl
   exact ⟨cs',Zc6.slice hxt a' n c' cs' h4,h1,h2,h3⟩
  ·cases hn
 ·cases hn
end
end Go.Im
namespace Go.Im
section
variable {P:Program} {low:Nat} {φ:Zac} {h:Heap} {w:World}
theorem RL.toArray_append {xs ys us vs:List Value} (h1:RL φ xs ys) (h2:RL φ us vs) (zs:Array Value) :
  ∀ (i:Nat) (x:Value),(xs++us)[i]? =some x→∃ y,(ys.toArray++vs.toArray++zs)[i]? =some y∧RV φ x y:=by
 intro i x hx
 have hl:=(h1.append h2)
 obtain ⟨y,hy,hr⟩:=hl.get hx
 refine ⟨y,?_,hr⟩
 have hi:=(List.getElem?_eq_some_iff.1 hy).1
 rw [Array.getElem?_append_left Yae]
 have:(ys.toArray++vs.toArray)=(ys++vs).toArray:=by simp
 rw [this]
 simpa using hy
theorem RV.Zds {φ:Zac} {b:Nat} (l:Loc) (hoff:l.off=0) (n c:Nat) (hn:n≤c) (h1:n*l.esz≤l.len) (h2:l.len≤c*l.esz) (h3:c*l.esz≤l.cap) :
  RV (Zac.add φ b l) (.slice (some ⟨b,0,none⟩) n big) (.slice (some ⟨l.blk,0,none⟩) n c):=by
 have:=RV.unknown (φ:=Zac.add φ b l) b 0 n c l Y7 hn Ya Ya Ya
 rw [hoff] at this
 simpa using this
theorem ZbW (r:RH φ h w) {s:Sem Value} {size k newCap D:Nat} {e:TypeId} {xs ys us vs:List Value} {z:Array Value} (hs0:0 < size) (hz:z.size=size) (h1:RL φ xs ys) (h2:RL φ us vs)
  (hk:(xs++us).length=k*size) (hok:(xs++us).all Zal=true) (hcap:k≤newCap)
  (hrun:s.run P w= .ok (.slice (some ⟨w.heap.size,0,none⟩) k newCap) { { w with drawn:=D } with heap:=w.heap.push (.cells (ys.toArray++vs.toArray++Builtin.zeroCells z (newCap - k)) e) }) :
  ZaK P low φ h w s (.slice (some ⟨h.size,0,none⟩) k big) (h.push (.cells (xs++us) size)):=by
 have hsz:(ys.toArray++vs.toArray++Builtin.zeroCells z (newCap - k)).size=newCap*size:=by
  have l1:=(h1.append h2).1
  rw [hk] at l1
  simp only [List.length_append] at l1
  simp only [Array.size_append,List.size_toArray,Builtin.zeroCells,Array.size_map,Array.size_range,hz,← l1,Nat.sub_mul]
  have:=Nat.mul_le_mul_right size hcap
  omega
 have hle:(xs++us).length≤(ys.toArray++vs.toArray++Builtin.zeroCells z (newCap - k)).size:=by
  rw [hsz,hk];exact Nat.mul_le_mul_right size hcap
 have hg:=(Goes.Zcp (low:=low) r (xs:=xs++us) (esz:=size) e (0,0) hs0 hok hle (.inl rfl) (RL.toArray_append h1 h2 _)).drew D
 exact ⟨_,_,_,hrun,hg,RV.Zds _ rfl k newCap hcap (by show k*size≤(xs++us).length;omega) (by show (xs++us).length≤newCap*size;rw [hk];exact Nat.mul_le_mul_right size hcap)
  (by show newCap*size≤_;rw [hsz];exact Nat.le_refl _)⟩
theorem Zgc (size:Nat) (c:Nat) (W:World):(Builtin.firstCells size 0 (.slice none 0 c)).run P W= .ok #[] W:=by simp [Builtin.firstCells]
theorem Zmt (r:RH φ h w) {i:TypeInfo} {sT xT e ty:TypeId} {z:Value} (ht:P.underlying sT=some (.slice e)) (hi:P.info? e=some i) (hz:i.zero=some z) (hzs:z.cells.size=i.size) (hs0:0 < i.size)
  {x':Value} {n:Nat} {new new':List Value} (hb:Zc6 P w i xT x' n new') (hnew:RL φ new new') (hlen:new.length=n*i.size) (hok:new.all Zal=true) (hn0:n≠0)
  {s s' v:Value} {h':Heap} (hs:RV φ s s') (hbig:∀ a sLen c,s= .slice a sLen c→sLen+n≤4611686018427387904∧2*(sLen+n)*i.bytes≤140737488355328)
  (hp:iput low h i.size s n new=some (v,h')):ZaK P low φ h w (Builtin.append_ #[sT,xT] ty #[s',x']) v h':=by
 unfold iput at hp
 split at hp
 ·rename_i sLen cap
  split at hp
  ·rename_i hc
   obtain ⟨rfl,rfl⟩:=hc
   cases hp
   cases hs
   obtain ⟨b1,b2⟩:=hbig none 0 0 rfl
   obtain ⟨newCap,hcap,hrun⟩:=hb.grow sT e ty none 0 0 z [] ht hi hz Ya b1 b2 (fun D=>Zgc _ _ _)
   simp only [Nat.zero_add] at hrun hcap
   exact ZbW (low:=low) (D:=w.drawn+1) (e:=e) r (xs:=[]) (us:=new) (ys:=[]) hs0 hzs (RL.nil φ) hnew hlen hok hcap hrun
  ·cases hp
 ·rename_i b o sLen cap
  obtain ⟨b1,b2⟩:=hbig _ sLen cap rfl
  split at hp
  ·rename_i cs esz hg
   split at hp
   ·cases hp
   ·rename_i hcond
    have hcond':esz=i.size∧o+sLen*i.size≤cs.length:=by
     constructor
     ·exact Classical.byContradiction fun hh=>hcond (.inl hh)
     ·exact Nat.le_of_not_lt fun hh=>hcond (.inr hh)
    obtain ⟨rfl,hle⟩:=hcond'
    have hold:∀ {s'},RV φ (.slice (some ⟨b,o,none⟩) sLen cap) s'→∃ a' c' old,s'= .slice a' sLen c'∧RL φ ((cs.drop o).take (sLen*i.size)) old ∧
      ∀ D,(Builtin.firstCells i.size sLen (.slice a' sLen c')).run P { w with drawn:=D }= .ok old.toArray { w with drawn:=D }:=by
     intro s' hs
     have hi':Zak h i.size (.slice (some ⟨b,o,none⟩) sLen cap)=some ((cs.drop o).take (sLen*i.size)):=by
      simp [Zak,Zqk hg,hle]
     obtain ⟨a',c',cs',h1,h2,_,_,h5⟩:=Zcr r hs hi'
     exact ⟨a',c',cs',h1,h2,h5⟩
    have hoklen:((cs.drop o).take (sLen*i.size)++new).length=(sLen+n)*i.size:=by
     simp only [List.length_append,List.length_take,List.length_drop,hlen,Nat.add_mul];omega
    have hokall:∀ l,φ b=some l→((cs.drop o).take (sLen*i.size)++new).all Zal=true:=by
     intro l hb'
     obtain ⟨_,_,_,_,_,_,_,_,_,_,hr⟩:=Zch r hb' hg
     rw [List.all_append,hok,Bool.and_true]
     refine List.all_eq_true.2 fun x hx=> ?_
     obtain ⟨j,hj⟩:=List.getElem?_of_mem (List.mem_of_mem_drop (List.mem_of_mem_take hx))
     exact (hr j x hj).1
    split at hp
    ·rename_i hcap
     cases hs with
     | unknown=>exact absurd hcap YI
     | spent=>exact absurd hcap YI
     | void _ _ a' =>
       split at hp
       ·omega
       ·rename_i hroom
        cases hp
        obtain ⟨a'',c',old,heq,h1,h2⟩:=hold (RV.void b o a')
        cases heq
        obtain ⟨newCap,hcap',hrun⟩:=hb.grow sT e ty _ 0 0 z old ht hi hz Ya b1 b2 h2
        refine ZbW (low:=low) (D:=w.drawn+1) (e:=e) r hs0 hzs h1 hnew hoklen ?_ hcap' hrun
        simpa using hok
     | known _ _ _ _ l hbl hc hn ho =>
       obtain ⟨c,e',fr,hblk,hcl,hcc,hfit,hes,_,hfr,hr⟩:=Zch r hbl hg
       split at hp
       ·rename_i hroom
        split at hp
        ·rename_i hlow
         obtain ⟨hlow,hin⟩:=hlow
         cases hp
         have hin':o+sLen*i.size+new.length≤cs.length:=by rw [hlen];rw [Nat.add_mul] at hin;omega
         obtain ⟨w',hst,hgo⟩:=Goes.write (P:=P) r hbl hlow hg hin' hok hnew
         refine ⟨φ,w',_,hb.room sT e ty ⟨l.blk,l.off+o,none⟩ sLen cap w' ht hi hroom ?_,hgo,RV.known b o (sLen+n) cap l hbl hc hroom ho⟩
         rw [addr_add,Nat.add_assoc]
         exact hst
        ·cases hp
       ·rename_i hroom
        cases hp
        obtain ⟨a',c',old,heq,h1,h2⟩:=hold (RV.known b o sLen cap l hbl hc hn ho)
        cases heq
        obtain ⟨newCap,hcap',hrun⟩:=hb.grow sT e ty _ sLen cap z old ht hi hz hroom b1 b2 h2
        exact ZbW (low:=low) (D:=w.drawn+1) (e:=e) r hs0 hzs h1 hnew hoklen (hokall l hbl) hcap' hrun
    ·rename_i hcap
     split at hp
     ·rename_i hc2
      obtain ⟨rfl,hlow⟩:=hc2
      split at hp
      ·rename_i hin
       cases hp
       have hin':o+sLen*i.size+new.length≤cs.length:=by rw [hlen];rw [Nat.add_mul] at hin;omega
       cases hs with
       | known _ _ _ _ l hbl hc=>exact absurd hc hcap
       | unknown _ _ _ c' l hbl hn ho he hc =>
         obtain ⟨c,e',fr,hblk,hcl,hcc,hfit,hes,_,hfr,hr⟩:=Zch r hbl hg
         rw [hes] at he ho hc
         have hroom:sLen+n≤c':=by
          have:(sLen+n)*i.size≤c'*i.size:=by omega
          exact Nat.le_of_mul_le_mul_right this hs0
         obtain ⟨w',hst,hgo⟩:=Goes.write (P:=P) r hbl hlow hg hin' hok hnew
         refine ⟨φ,w',_,hb.room sT e ty ⟨l.blk,l.off+o,none⟩ sLen c' w' ht hi hroom ?_,hgo,RV.unknown b o (sLen+n) c' l hbl hroom (by rw [hes];omega) (by rw [hes];exact he) (by rw [hes];exact hc)⟩
         rw [addr_add,Nat.add_assoc]
         exact hst
       | spent _ _ l a' hbl ho =>
         exfalso
         obtain ⟨c,e',fr,hblk,hcl,hcc,hfit,hes,_,hfr,hr⟩:=Zch r hbl hg
         have:0 < n*i.size:=Nat.mul_pos Ya hs0
         omega
      ·rename_i hin
       cases hp
       cases hs with
       | known _ _ _ _ l hbl hc=>exact absurd hc hcap
       | unknown _ _ _ c' l hbl hn ho he hc =>
         have hcell:=Zch r hbl hg
         obtain ⟨c,e',fr,hblk,hcl,hcc,hfit,hes,_,hfr,hr⟩:=hcell
         obtain ⟨a',c'',old,heq,h1,h2⟩:=hold (RV.unknown b o sLen c' l hbl hn ho he hc)
         cases heq
         by_cases hroom:sLen+n≤c'
         ·
          rw [hes] at he ho hc
          have hnl:new'.length=n*i.size:=by rw [← hnew.1,hlen]
          have hmul:(sLen+n)*i.size≤c'*i.size:=Nat.mul_le_mul_right _ hroom
          rw [Nat.add_mul] at hmul
          have hone:∀ v ∈ new',v.oneCell'=true:=by
           intro v hv
           obtain ⟨j,hj⟩:=List.getElem?_of_mem hv
           have hj':j < new.length:=by have:=(List.getElem?_eq_some_iff.1 hj).1;omega
           exact (hnew.2 j _ v (List.getElem?_eq_getElem hj') hj).oneCell (List.all_eq_true.1 hok _ (List.getElem_mem hj'))
          have hst:=Zb8 (P:=P) new' 0 w l.blk (l.off+o+sLen*i.size) c e' fr hblk (hfr.imp id And.left) Ya hone
          have hne:new'≠[]:=by
           rintro rfl
           have:0 < n*i.size:=Nat.mul_pos Ya hs0
           simp at hnl
           omega
          simp only [hne,if_false,Nat.add_zero] at hst
          have hrb:RB (Zac.add φ h.size ⟨l.blk,l.off+o,(sLen+n)*i.size,l.cap,i.size⟩) ⟨l.blk,l.off+o,(sLen+n)*i.size,l.cap,i.size⟩
            (.cells ((cs.drop o).take (sLen*i.size)++new) i.size) (.cells (wr c (l.off+o+sLen*i.size) new') e' fr):=by
           refine ⟨hoklen,by rw [ZcO];exact hcc,by simp only [Nat.add_mul];omega,rfl,hs0,by rw [ZcO];exact hfr,?_⟩
           intro j v hj
           refine ⟨List.all_eq_true.1 (hokall l hbl) v (List.mem_of_getElem? hj),?_⟩
           have htl:((cs.drop o).take (sLen*i.size)).length=sLen*i.size:=Yl
           rw [ZiD _ _ _ _ Ya]
           by_cases hjs:j < sLen*i.size
           ·rw [List.getElem?_append_left Ya] at hj
            rw [List.getElem?_take] at hj
            simp only [hjs,if_true] at hj
            rw [List.getElem?_drop] at hj
            obtain ⟨_,v',hv',hrv⟩:=hr _ v hj
            have hno:¬ (l.off+o+sLen*i.size≤l.off+o+j∧l.off+o+j < l.off+o+sLen*i.size+new'.length):=Ya
            rw [if_neg hno]
            exact ⟨v',by rw [Nat.add_assoc];exact hv',hrv.mono (Zac.ZdO r _)⟩
           ·rw [List.getElem?_append_right Ya,htl] at hj
            have hjn:=(List.getElem?_eq_some_iff.1 hj).1
            have hyes:l.off+o+sLen*i.size≤l.off+o+j∧l.off+o+j < l.off+o+sLen*i.size+new'.length:=Ya
            rw [if_pos hyes,show l.off+o+j - (l.off+o+sLen*i.size)=j - sLen*i.size by omega]
            obtain ⟨y,hy,hrv⟩:=hnew.get hj
            exact ⟨y,hy,hrv.mono (Zac.ZdO r _)⟩
          have hgo:=Goes.take (low:=low) r hbl hlow YQ YU (l2:=⟨l.blk,l.off+o,(sLen+n)*i.size,l.cap,i.size⟩) rfl hrb
          refine ⟨_,_,_,hb.room sT e ty ⟨l.blk,l.off+o,none⟩ sLen c' _ ht hi hroom (by rw [addr_add];exact hst),hgo,?_⟩
          have:=RV.unknown (φ:=Zac.add φ h.size ⟨l.blk,l.off+o,(sLen+n)*i.size,l.cap,i.size⟩) h.size 0 (sLen+n) c' ⟨l.blk,l.off+o,(sLen+n)*i.size,l.cap,i.size⟩ Y7 hroom
           (by show 0+(sLen+n)*i.size≤(sLen+n)*i.size;omega) (by show (sLen+n)*i.size≤0+c'*i.size;have:=Nat.mul_le_mul_right i.size hroom;omega) (by show l.off+o+0+c'*i.size≤l.cap;omega)
          exact this
         ·obtain ⟨newCap,hcap',hrun⟩:=hb.grow sT e ty _ sLen c' z old ht hi hz hroom b1 b2 h2
          have hk:=r.kill b
          obtain ⟨ψ,w',v',g1,g2,g3⟩:=ZbW (low:=low) (D:=w.drawn+1) (e:=e) hk hs0 hzs h1 hnew hoklen (hokall l hbl) hcap' hrun
          exact ⟨ψ,w',v',g1,(Goes.kill r b).trans g2,g3⟩
       | spent _ _ l a' hbl ho =>
         obtain ⟨a'',c'',old,heq,h1,h2⟩:=hold (RV.spent b o l a' hbl ho)
         cases heq
         obtain ⟨newCap,hcap',hrun⟩:=hb.grow sT e ty _ 0 0 z old ht hi hz Ya b1 b2 h2
         have hk:=r.kill b
         obtain ⟨ψ,w',v',g1,g2,g3⟩:=ZbW (low:=low) (D:=w.drawn+1) (e:=e) hk hs0 hzs h1 hnew hoklen (hokall l hbl) hcap' hrun
         exact ⟨ψ,w',v',g1,(Goes.kill r b).trans g2,g3⟩
     ·cases hp
  ·cases hp
 ·cases hp
theorem Zie (r:RH φ h w) {sT xT ty:TypeId} {s x s' x' v:Value} {h':Heap} (hs:RV φ s s') (hx:RV φ x x') (hi:ZaC P low h #[sT,xT] s x=some (v,h')) :
  ZaK P low φ h w (Builtin.append_ #[sT,xT] ty #[s',x']) v h':=by
 unfold ZaC at hi
 split at hi
 ·rename_i e xt h1 h2
  simp only [List.getElem?_toArray,List.getElem?_cons_zero,List.getElem?_cons_succ,Option.bind_some] at h1 h2
  split at hi
  ·rename_i i hinfo
   split at hi
   ·rename_i k new base n cap hnews
    split at hi
    ·cases hi
    ·rename_i hc
     have c1:i.size≠0:=fun hh=>hc (.inl hh)
     have c2:2*(n+k)*i.bytes≤140737488355328:=Nat.le_of_not_lt fun hh=>hc (.inr (.inl hh))
     have c3:n+k≤4611686018427387904:=Nat.le_of_not_lt fun hh=>hc (.inr (.inr (.inl hh)))
     have c4:(i.zero.map fun z=>z.cells.size)=some i.size:=Classical.byContradiction fun hh=>hc (.inr (.inr (.inr hh)))
     obtain ⟨z,hz,hzs⟩:=Option.map_eq_some_iff.1 c4
     obtain ⟨new',hb,hrl,hlen,hok⟩:=ZmS r h2 hx hnews Ya
     split at hi
     ·rename_i hk
      subst hk
      cases hi
      have hn:new=[]:=List.eq_nil_of_length_eq_zero Ya
      subst hn
      have hn':new'=[]:=List.eq_nil_of_length_eq_zero hrl.1.symm
      subst hn'
      have hcap:∃ a' c',s'= .slice a' n c'∧n≤c':=by
       cases hs
       ·exact ⟨_,_,rfl,Nat.le_refl _⟩
       ·exact ⟨_,_,rfl,by assumption⟩
       ·exact ⟨_,_,rfl,by assumption⟩
       ·exact ⟨_,_,rfl,Nat.le_refl _⟩
       ·exact ⟨_,_,rfl,Nat.le_refl _⟩
      obtain ⟨a',c',rfl,hle⟩:=hcap
      refine ZaK.of r ?_ hs
      cases a' with
      | some a=>exact hb.room sT e ty a n c' w h1 hinfo hle (by simp [storeCells])
      | none =>
        have hn0:n=0∧c'=0:=by cases hs;exact ⟨rfl,rfl⟩
        obtain ⟨rfl,rfl⟩:=hn0
        exact hb.none0 sT e ty h1 hinfo rfl
     ·rename_i hk
      refine Zmt r h1 hinfo hz hzs Ya hb hrl hlen hok hk hs ?_ hi
      intro a sLen c heq
      cases heq
      exact ⟨c3,c2⟩
   ·cases hi
  ·cases hi
 ·cases hi
end
end Go.Im
namespace Go.Im
section
variable {P:Program} {low:Nat} {φ:Zac} {h:Heap} {w:World}
def Heap.more (h:Heap):Option Blk→Heap
 | none=>h
 | some x=>h.push x
theorem ZkX (r:RH φ h w) {t:TypeId} {l c l' c' v:Value} {ob:Option Blk} (hl:RV φ l l') (hc:RV φ c c') (hi:Zf8 P h.size t l c=some (v,ob)) :
  ZaK P low φ h w (Instr.makeSlice t l' c') v (Heap.more h ob):=by
 unfold Zf8 at hi
 split at hi
 ·rename_i e ln cn ht hln hcn
  have hl2:∃ k,l'= .int k ln:=by
   cases hl<;>simp [numOf] at hln
   exact ⟨_,by rw [hln]⟩
  have hc2:∃ k,c'= .int k cn:=by
   cases hc<;>simp [numOf] at hcn
   exact ⟨_,by rw [hcn]⟩
  obtain ⟨kl,rfl⟩:=hl2
  obtain ⟨kc,rfl⟩:=hc2
  split at hi
  ·rename_i i hinfo
   split at hi
   ·rename_i z hz
    split at hi
    ·rename_i hcond
     obtain ⟨h0,hle,hb,hsm,hs0,hzs,hat⟩:=hcond
     cases hi
     have hrun:=run_make (P:=P) w t e i z ht hinfo hz kl kc ln cn h0 hle (by rw [Int.mul_comm];omega) Ya
     have hcells:madeCells z.cells (cn.toNat*i.size)=(List.replicate cn.toNat z.cells.toList).flatten.toArray:=by
      have:=ZdA z.cells Ya cn.toNat
      rw [← hzs]
      exact this
     rw [hcells] at hrun
     have hlen:(List.replicate cn.toNat z.cells.toList).flatten.length=cn.toNat*i.size:=by rw [Zay];simp [hzs]
     have hg:=Goes.Zcp (low:=low) r (xs:=(List.replicate cn.toNat z.cells.toList).flatten) (ys:=(List.replicate cn.toNat z.cells.toList).flatten.toArray) (esz:=i.size) e (0,0) hs0
      (ZbF (all_replicate hat _)) Yp (.inl rfl) (fun j x hx=>⟨x,by simpa using hx,RV.atomic φ (List.all_eq_true.1 (all_replicate hat _) x (List.mem_of_getElem? hx))⟩)
     refine ⟨_,_,_,hrun,hg,?_⟩
     have hbig:cn.toNat < big:=by unfold big;omega
     exact RV.known (φ:=Zac.add φ h.size ⟨w.heap.size,0,(List.replicate cn.toNat z.cells.toList).flatten.length,(List.replicate cn.toNat z.cells.toList).flatten.toArray.size,i.size⟩) h.size 0 ln.toNat cn.toNat
      ⟨w.heap.size,0,(List.replicate cn.toNat z.cells.toList).flatten.length,(List.replicate cn.toNat z.cells.toList).flatten.toArray.size,i.size⟩ Y7 hbig Ya
      (by show 0+cn.toNat*i.size≤(List.replicate cn.toNat z.cells.toList).flatten.length;rw [hlen];omega)
    ·cases hi
   ·cases hi
  ·cases hi
 ·cases hi
theorem ZgV (off:Nat):∀ (l:List (Value × Nat)) (c:Array Value),(l.foldl (fun (cs:Array Value) (x:Value × Nat)=>cs.setIfInBounds (off+x.2) x.1) c).size=c.size
 | [],c=>rfl
 | x::l,c=>by rw [List.foldl_cons,ZgV off l];simp
theorem ZiG (place:Nat→Option (Nat × Nat)):∀ (ps:List (Nat × Value)) (c r:Array Value),Instr.fill place c ps=some r→r.size=c.size
 | [],c,r,h=>by simp only [Instr.fill] at h;cases h;rfl
 | (i,v)::ps,c,r,h=>by
   simp only [Instr.fill] at h
   split at h
   ·cases h
   ·split at h
    ·cases h
    ·have:=ZiG place ps _ r h
     rw [this,← Array.foldl_toList,Array.toList_zipIdx]
     exact ZgV _ _ _
theorem Zfc (r:RH φ h w) {ρ ρ':Operand→Value} (hρ:∀ x,RV φ (ρ x) (ρ' x)) {t e:TypeId} {len:Nat} {parts:Array (Nat × Operand)} {i:TypeInfo} {z:Value} {cells:Array Value}
  (ht:P.underlying t=some (.slice e)) (hinfo:P.info? e=some i) (hz:i.zero=some z) (hsm:len*i.size≤16777216) (hs0:0 < i.size) (hzs:z.cells.size=i.size) (hat:z.cells.toList.all atomic=true)
  (hpo:parts.toList.all (fun p=>(ρ p.2).cells.toList.all Zal)=true)
  (hf:Instr.fill (fun k=>some (k*i.size,i.size)) (List.replicate len z.cells.toList).flatten.toArray (parts.map fun (k,x)=>(k,ρ x)).toList=some cells) (hok:cells.toList.all Zal=true) :
  ZaK P low φ h w (Instr.buildSlice t len (parts.map fun (k,x)=>(k,ρ' x))) (.slice (some ⟨h.size,0,none⟩) len len) (h.push (.cells cells.toList i.size)):=by
 have hcs:cells.size=len*i.size:=by
  rw [ZiG _ _ _ _ hf]
  simp only [List.size_toArray,Zay,Array.length_toList,hzs]
 have hrp:=Zo8 hρ parts hpo
 obtain ⟨cells',hf',hrl⟩:=Zfr _ _ _ _ _ _ hrp (by simpa using RL.atomic φ (all_replicate hat len)) hf
 have hcs':cells'.size=cells.size:=by have:=hrl.1;simp only [Array.length_toList] at this;omega
 have hfill:(Array.range (len*i.size)).map (fun x=>z.cells[x%i.size]!)=(List.replicate len z.cells.toList).flatten.toArray:=by
  have:=ZdA z.cells Ya len
  rw [hzs] at this
  exact this
 have hsmall:¬ (len*i.size > 2 ^ 24):=by
  have:(2:Nat) ^ 24=16777216:=by decide
  omega
 have hsz:∀ W,(sizeOf e).run P W= .ok i.size W:=fun W=>by simp [sizeOf,typeInfo,hinfo]
 have hzv:∀ W,(zeroValue e).run P W= .ok z W:=fun W=>Zb7 (by simp [Zcb,hinfo,hz])
 have hrun:(Instr.buildSlice t len (parts.map fun (k,x)=>(k,ρ' x))).run P w= .ok (.slice (some ⟨w.heap.size,0,none⟩) len len) { w with heap:=w.heap.push (.cells cells' e) }:=by
  unfold Instr.buildSlice
  simp only [Sem.run_bind,Zab ht,Result.andThen_ok,hsz,Sem.run_ite,hsmall,if_false]
  by_cases hl:len*i.size=0
  ·have hl0:len=0:=by rcases Nat.mul_eq_zero.1 hl with h | h<;>omega
   subst hl0
   simp only [Nat.zero_mul,if_true,Sem.run_pure,Result.andThen_ok,Array.range_zero',Array.map_empty]
   have hf2:Instr.fill (fun k=>some (k*i.size,i.size)) #[] (parts.map fun (k,x)=>(k,ρ' x)).toList=some cells':=by simpa using hf'
   rw [hf2]
   simp only [newRow,Sem.run_bind,run_newObj,Result.andThen_ok,Sem.run_pure]
  ·simp only [hl,if_false,Sem.run_bind,hzv,Result.andThen_ok,Sem.run_pure,hzs]
   rw [hfill,hf']
   simp only [newRow,Sem.run_bind,run_newObj,Result.andThen_ok,Sem.run_pure]
 have hg:=Goes.Zcp (low:=low) r (xs:=cells.toList) (ys:=cells') (esz:=i.size) e (0,0) hs0 hok (by simp [hcs']) (.inl rfl)
  (fun j x hx=>by obtain ⟨y,hy,hr⟩:=hrl.get hx;exact ⟨y,by simpa using hy,hr⟩)
 refine ⟨_,_,_,hrun,hg,?_⟩
 have hlen:len < big:=by
  unfold big
  have:len≤len*i.size:=Nat.le_mul_of_pos_right _ hs0
  omega
 exact RV.known (φ:=Zac.add φ h.size ⟨w.heap.size,0,cells.toList.length,cells'.size,i.size⟩) h.size 0 len len ⟨w.heap.size,0,cells.toList.length,cells'.size,i.size⟩ Y7 hlen (Nat.le_refl _)
  (by show 0+len*i.size≤cells.toList.length;simp [hcs])
theorem Zmi {lo:Option Value} {lo':Option Value} (hlo:lo.isSome=lo'.isSome) (hr:∀ x y,lo=some x→lo'=some y→RV φ x y) {d n:Nat}
  (hn:Zag d lo=some n) :
  (lo=none∧lo'=none∧n=d)∨∃ (k:IntKind) (i:Int),lo=some (.int k i)∧lo'=some (.int k i)∧0≤i∧i.toNat=n:=by
 cases lo with
 | none =>
   cases lo' with
   | none=>exact .inl ⟨rfl,rfl,by simpa [Zag] using hn.symm⟩
   | some y=>simp at hlo
 | some x =>
   cases lo' with
   | none=>simp at hlo
   | some y =>
     have hxy:=hr x y rfl rfl
     cases hxy<;>simp [Zag] at hn
     rename_i k i
     exact .inr ⟨k,i,rfl,rfl,hn.1,hn.2⟩
theorem ZeW {isS:Bool} {n cap cap':Nat} {lo hi mx lo' hi' mx':Option Value} (h1:lo.isSome=lo'.isSome) (h2:hi.isSome=hi'.isSome) (h3:mx.isSome=mx'.isSome)
  (r1:∀ x y,lo=some x→lo'=some y→RV φ x y) (r2:∀ x y,hi=some x→hi'=some y→RV φ x y) (r3:∀ x y,mx=some x→mx'=some y→RV φ x y)
  {l u m:Nat} (hinds:Zb4 n cap lo hi mx=some (l,u,m)) (hcap:cap≤cap') :
  l≤u∧u≤m∧m≤cap∧(mx=none→m=cap) ∧
   (Instr.sliceBounds isS n cap' lo' hi' mx').run P w= .ok (l,u,if mx.isSome then m else cap') w:=by
 unfold Zb4 at hinds
 split at hinds
 ·rename_i l0 u0 m0 e1 e2 e3
  split at hinds
  ·rename_i hc
   cases hinds
   obtain ⟨c1,c2,c3,hform⟩:=hc
   have q1:=Zmi h1 r1 e1
   have q2:=Zmi h2 r2 e2
   have q3:=Zmi h3 r3 e3
   refine ⟨c1,c2,c3,?_,?_⟩
   ·intro hm
    subst hm
    simpa [Zag] using e3.symm
   ·unfold Instr.sliceBounds
    rcases q3 with ⟨rfl,rfl,rfl⟩ | ⟨km,im,rfl,rfl,hm0,hm⟩
    ·rcases q2 with ⟨rfl,rfl,rfl⟩ | ⟨kh,ih,rfl,rfl,hh0,hh⟩<;>rcases q1 with ⟨rfl,rfl,rfl⟩ | ⟨kl,il,rfl,rfl,hl0,hl⟩
     ·simp
     ·have g1:il≤(u:Int):=by omega
      simp [Instr.sliceBound,asIntOf,hl0,g1,hl]
     ·have g1:ih≤(cap':Int):=by omega
      simp [Instr.sliceBound,asIntOf,hh0,g1,hh]
     ·have g1:ih≤(cap':Int):=by omega
      have g2:il≤(u:Int):=Ya
      have g3:il≤ih:=Ya
      simp [Instr.sliceBound,asIntOf,hh0,g1,hh,hl0,g2,g3,hl]
    ·rcases q2 with ⟨rfl,rfl,rfl⟩ | ⟨kh,ih,rfl,rfl,hh0,hh⟩
     ·simp at hform
     ·rcases q1 with ⟨rfl,rfl,rfl⟩ | ⟨kl,il,rfl,rfl,hl0,hl⟩
      ·have g1:ih≤(m:Int):=by omega
       have g2:im≤(cap':Int):=Ya
       have g3:ih≤im:=Ya
       simp [Instr.sliceBound,asIntOf,hh0,g1,hh,hm0,g2,g3,hm]
      ·have g1:ih≤(m:Int):=by omega
       have g2:im≤(cap':Int):=Ya
       have g3:ih≤im:=Ya
       have g4:il≤(u:Int):=Ya
       have g5:il≤ih:=Ya
       simp [Instr.sliceBound,asIntOf,hh0,g1,hh,hm0,g2,g3,hm,hl0,g4,g5,hl]
  ·cases hinds
 ·cases hinds
end
end Go.Im
namespace Go.Im
section
variable {P:Program} {low:Nat} {φ:Zac} {h:Heap} {w:World}
theorem ZeH {ρ ρ':Operand→Value} (o:Option Operand):(o.map ρ).isSome=(o.map ρ').isSome:=by cases o<;>rfl
theorem Zjb {ρ ρ':Operand→Value} (hρ:∀ x,RV φ (ρ x) (ρ' x)) (o:Option Operand):∀ x y,o.map ρ=some x→o.map ρ'=some y→RV φ x y:=by
 intro x y hx hy
 cases o with
 | none=>simp at hx
 | some o=>simp at hx hy;subst hx;subst hy;exact hρ o
theorem Ze3 {t e:TypeId} {size:Nat} {a:Option Addr} {n cap l u m:Nat} {lo hi mx:Option Value} (ht:P.underlying t=some (.slice e)) (hs:Zaq P e=some size)
  (hb:(Instr.sliceBounds true n cap lo hi mx).run P w= .ok (l,u,m) w) :
  (Instr.sliceAt t (.slice a n cap) lo hi mx).run P w= .ok (.slice (if m=l then a else a.map (·.add (l*size))) (u - l) (m - l)) w:=by
 simp only [Instr.sliceAt,Sem.run_bind,Zab ht,Result.andThen_ok,Instr.slice,hb,Zbg hs,Sem.run_pure]
theorem Zje (r:RH φ h w) {t:TypeId} {x x' v:Value} {lo hi mx lo' hi' mx':Option Value} (hx:RV φ x x') (h1:lo.isSome=lo'.isSome) (h2:hi.isSome=hi'.isSome) (h3:mx.isSome=mx'.isSome)
  (r1:∀ x y,lo=some x→lo'=some y→RV φ x y) (r2:∀ x y,hi=some x→hi'=some y→RV φ x y) (r3:∀ x y,mx=some x→mx'=some y→RV φ x y)
  (hv:ZeM P h t x lo hi mx=some v):ZaK P low φ h w (Instr.sliceAt t x' lo' hi' mx') v h:=by
 unfold ZeM at hv
 split at hv
 ·
  rename_i s ht
  cases hx
  split at hv
  ·rename_i l u m hinds
   cases hv
   have hmx:mx'=none:=by cases mx' with
    | none=>rfl
    | some y=>simp at h3
   subst hmx
   obtain ⟨_,_,_,hm,hb⟩:=ZeW (P:=P) (w:=w) (isS:=false) h1 h2 Yn r1 r2 (by intro x y hx;cases hx) hinds (Nat.le_refl _)
   refine ZaK.of r (v':= .string (s.extract l u)) ?_ (.string _)
   simp [Instr.sliceAt,Zab ht,Instr.slice,hb]
  ·cases hv
 ·rename_i e a n cap ht
  split at hv
  ·rename_i size hs
   split at hv
   ·rename_i hcap
    split at hv
    ·rename_i l u m hinds
     have main:∀ a' cap',x'= .slice a' n cap'→cap≤cap'→cap=cap'→∃ q,(Instr.sliceAt t x' lo' hi' mx').run P w= .ok q w∧q= .slice (if m=l then a' else a'.map (·.add (l*size))) (u - l) (m - l)∧l≤u∧u≤m∧m≤cap:=by
      intro a' cap' hx' hle he
      subst hx'
      obtain ⟨b1,b2,b3,hm,hb⟩:=ZeW (P:=P) (w:=w) (isS:=true) h1 h2 h3 r1 r2 r3 hinds hle
      have hm':(if mx.isSome=true then m else cap')=m:=by
       cases mx with
       | none=>simp [hm rfl,he]
       | some _=>simp
      rw [hm'] at hb
      exact ⟨_,Ze3 ht hs hb,rfl,b1,b2,b3⟩
     have zero:cap=0→l=0∧u=0∧m=0:=by
      intro hc
      unfold Zb4 at hinds
      split at hinds
      ·split at hinds
       ·rename_i hcond
        cases hinds
        omega
       ·cases hinds
      ·cases hinds
     split at hv
     ·rename_i hc0
      subst hc0
      cases hv
      obtain ⟨rfl,rfl,rfl⟩:=zero rfl
      cases hx with
      | nilSlice =>
        obtain ⟨q,hq,rfl,b1,b2,b3⟩:=main none 0 rfl (Nat.le_refl _) rfl
        exact ZaK.of r hq (by simpa using RV.nilSlice)
      | known b o _ _ l0 hb hc hn ho =>
        obtain ⟨q,hq,rfl,b1,b2,b3⟩:=main _ 0 rfl (Nat.le_refl _) rfl
        exact ZaK.of r hq (by simpa using RV.void b o _)
      | void b o a' =>
        obtain ⟨q,hq,rfl,b1,b2,b3⟩:=main _ 0 rfl (Nat.le_refl _) rfl
        exact ZaK.of r hq (by simpa using RV.void b o a')
     ·rename_i hc0
      split at hv
      ·rename_i b o
       split at hv
       ·rename_i cs esz hg
        split at hv
        ·rename_i hes
         subst hes
         cases hv
         cases hx with
         | known _ _ _ _ l0 hb hc hn ho =>
           obtain ⟨q,hq,rfl,b1,b2,b3⟩:=main _ cap rfl (Nat.le_refl _) rfl
           obtain ⟨c,e',fr,hblk,hcl,hfit,hes,hs0,hr⟩:=Zcx r hb hg
           refine ZaK.of r hq ?_
           by_cases hml:m=l
           ·simp only [hml,if_true,Nat.sub_self]
            have:u - l=0:=by omega
            rw [this]
            exact RV.void _ _ _
           ·simp only [hml,if_false,Option.map_some,addr_add]
            rw [Nat.add_assoc]
            refine RV.known b (o+l*esz) (u - l) (m - l) l0 hb Ya Ya ?_
            rw [hes] at ho ⊢
            have:l*esz+(m - l)*esz=m*esz:=by rw [← Nat.add_mul];congr 1;omega
            have:=Nat.mul_le_mul_right esz b3
            omega
         | void=>exact absurd rfl hc0
         | unknown=>exact absurd hcap YI
         | spent=>exact absurd hcap YI
        ·cases hv
       ·cases hv
      ·cases hv
    ·cases hv
   ·rename_i hcap
    split at hv
    ·rename_i hc2
     subst hc2
     split at hv
     ·rename_i b o
      split at hv
      ·rename_i cs esz hg
       split at hv
       ·cases hv
       ·rename_i hes'
        have hes0:esz=size:=Classical.byContradiction hes'
        subst hes0
        split at hv
        ·rename_i l u m hinds
         have main:∀ (a':Addr) (cap':Nat),x'= .slice (some a') n cap'→(cs.length - o) / esz≤cap' →
           l≤u∧u≤m∧m≤(cs.length - o) / esz∧(mx=none→m=(cs.length - o) / esz) ∧
           (Instr.sliceAt t x' lo' hi' mx').run P w= .ok (.slice (if (if mx.isSome=true then m else cap')=l then some a' else some (a'.add (l*esz))) (u - l) ((if mx.isSome=true then m else cap') - l)) w:=by
          intro a' cap' hx' hle
          subst hx'
          obtain ⟨b1,b2,b3,hm,hb⟩:=ZeW (P:=P) (w:=w) (isS:=true) h1 h2 h3 r1 r2 r3 hinds hle
          exact ⟨b1,b2,b3,hm,Ze3 ht hs hb⟩
         cases hx with
         | known _ _ _ _ l0 hb hc=>exact absurd hc hcap
         | unknown _ _ _ c' l0 hb hn ho he hc =>
           obtain ⟨c,e',fr,hblk,hcl,hfit,hes,hs0,hr⟩:=Zcx r hb hg
           rw [hes] at ho he hc
           have hdiv:(cs.length - o) / esz*esz≤cs.length - o:=Nat.div_mul_le_self _ _
           have hle:(cs.length - o) / esz≤c':=by
            refine Nat.le_of_mul_le_mul_right (Nat.le_trans hdiv ?_) hs0
            omega
           obtain ⟨b1,b2,b3,hm,hq⟩:=main _ c' rfl hle
           have hu:u*esz≤cs.length - o:=Nat.le_trans (Nat.mul_le_mul_right esz (Nat.le_trans b2 b3)) hdiv
           have hml:m*esz≤cs.length - o:=Nat.le_trans (Nat.mul_le_mul_right esz b3) hdiv
           have hlu:l*esz+(u - l)*esz=u*esz:=YV
           split at hv
           ·
            cases hv
            simp only [Option.isSome_none,Bool.false_eq_true,if_false] at hq
            refine ZaK.of r hq ?_
            by_cases hcl':c'=l
            ·have hu0:u - l=0:=by omega
             have hc0:c' - l=0:=Ya
             simp only [hcl',if_true,Nat.sub_self,hu0]
             have hlc:l*esz=c'*esz:=by rw [hcl']
             exact RV.spent b (o+l*esz) l0 _ hb (by have:=Nat.mul_le_mul_right esz (Nat.le_trans b1 (Nat.le_trans b2 b3));omega)
            ·simp only [hcl',if_false,addr_add]
             rw [Nat.add_assoc]
             have hcs:l*esz+(c' - l)*esz=c'*esz:=YV
             refine RV.unknown b (o+l*esz) (u - l) (c' - l) l0 hb Ya (by rw [hes];omega) (by rw [hes];omega) (by rw [hes];omega)
           ·split at hv
            case isFalse=>cases hv
            rename_i hmb
            cases hv
            simp only [Option.isSome_some,if_true] at hq
            refine ZaK.of r hq ?_
            by_cases hml':m=l
            ·simp only [hml',if_true,Nat.sub_self]
             have:u - l=0:=by omega
             rw [this]
             exact RV.void _ _ _
            ·simp only [hml',if_false,addr_add]
             rw [Nat.add_assoc]
             have hms:l*esz+(m - l)*esz=m*esz:=YV
             refine RV.known b (o+l*esz) (u - l) (m - l) l0 hb ?_ Ya (by rw [hes];omega)
             omega
         | spent _ _ l0 a' hb ho =>
           obtain ⟨c,e',fr,hblk,hcl,hfit,hes,hs0,hr⟩:=Zcx r hb hg
           have hz:(cs.length - o) / esz=0:=by
            rw [show cs.length - o=0 by omega];exact Nat.zero_div _
           obtain ⟨b1,b2,b3,hm,hq⟩:=main a' 0 rfl Ya
           have e1:m=0:=Ya
           have e2:u=0:=Ya
           have e3:l=0:=Ya
           subst e1;subst e2;subst e3
           split at hv
           ·cases hv
            refine ZaK.of r hq ?_
            simpa using RV.spent b o l0 a' hb ho
           ·split at hv
            case isFalse=>cases hv
            cases hv
            refine ZaK.of r hq ?_
            simpa using RV.void b o a'
        ·cases hv
      ·cases hv
     ·cases hv
    ·cases hv
  ·cases hv
 ·cases hv
end
end Go.Im
namespace Go.Im
section
variable {P:Program} {low:Nat} {φ:Zac} {h:Heap} {w:World}
theorem Zd8 {t e:TypeId} {d:TypeDesc} (hm:mapOf P t=some (d,e)):∃ k,P.underlying t=some (.map k e)∧P.underlying k=some d∧Zf3 d=true:=by
 unfold mapOf at hm
 split at hm
 ·rename_i k e' hu
  split at hm
  ·rename_i d' hk
   split at hm
   ·rename_i hkk
    cases hm
    exact ⟨k,hu,hk,hkk⟩
   ·cases hm
  ·cases hm
 ·cases hm
def REs (φ:Zac) (es es':List MapEntry):Prop:=es.length=es'.length∧∀ (i:Nat) (e e':MapEntry),es[i]? =some e→es'[i]? =some e'→e.born=e'.born∧RV φ e.key e'.key∧RV φ e.val e'.val
theorem REs.nil:REs φ [] []:=⟨rfl,by intro i e e' h;simp at h⟩
theorem REs.tail {e e':MapEntry} {es es':List MapEntry} (h:REs φ (e::es) (e'::es')):(e.born=e'.born∧RV φ e.key e'.key∧RV φ e.val e'.val)∧REs φ es es' :=
 ⟨h.2 0 e e' rfl rfl,by have:=h.1;simpa using this,fun i a b ha hb=>h.2 (i+1) a b (by simpa using ha) (by simpa using hb)⟩
theorem Zms (r:RH φ h w) {b:Nat} {l:Loc} (hb:φ b=some l) {es:List MapEntry} {c:Nat} (hg:h.get b= .map es c) :
  ∃ es',w.heap[l.blk]? =some (.map es' c)∧REs φ es es'.toList:=by
 obtain ⟨o,ho,hr⟩:=r.blk b l hb
 rw [hg] at hr
 cases o with
 | map es' k' =>
   obtain ⟨rfl,h1,h2⟩:=hr
   exact ⟨es',ho,by simpa using h1,h2⟩
 | _=>exact absurd hr (by simp [RB])
theorem ZgZ {a b:ByteArray}:(a == b)=true↔a=b:=by
 have h:(a == b)=(a.data == b.data):=rfl
 rw [h,beq_iff_eq]
 constructor
 ·intro e
  cases a
  cases b
  simp only at e
  rw [e]
 ·intro e
  rw [e]
theorem ZfL {d:TypeDesc} {k k' a a':Value} {b:Bool} (hk:RV φ k k') (ha:RV φ a a') (hs:Instr.sameNow d k a=some b):Instr.sameNow d k' a'=some b∧(b=true→Instr.sameBits 10000 a' k'=true):=by
 unfold Instr.sameNow at hs
 split at hs
 ·cases hk;cases ha
  split at hs
  ·rename_i he
   subst he
   cases hs
   refine ⟨by simp [Instr.sameNow],fun h1=> ?_⟩
   obtain rfl:=eq_of_beq h1
   simp [Instr.sameBits]
  ·cases hs
 ·cases hk;cases ha
  cases hs
  refine ⟨by simp [Instr.sameNow],fun h1=> ?_⟩
  obtain rfl:=ZgZ.1 h1
  simp only [Instr.sameBits]
  exact ZgZ.2 rfl
 ·cases hk;cases ha
  cases hs
  refine ⟨by simp [Instr.sameNow],fun h1=> ?_⟩
  obtain rfl:=eq_of_beq h1
  simp [Instr.sameBits]
 ·cases hs
theorem Zbl {d:TypeDesc} {k k':Value} (hk:RV φ k k'):∀ (es es':List MapEntry) (i:Nat) (r:Option (Nat × Value)),REs φ es es'→Instr.findNow d k es i=some r →
  (r=none∧Instr.findNow d k' es' i=some none)∨∃ m v v',r=some (m,v)∧Instr.findNow d k' es' i=some (some (m,v'))∧RV φ v v'∧i≤m∧∃ e',es'[m - i]? =some e'∧Instr.sameBits 10000 e'.key k'=true
 | [],[],i,r,_,hf=>by
   simp only [Instr.findNow,Option.some.injEq] at hf
   exact .inl ⟨hf.symm,rfl⟩
 | [],_::_,_,_,h,_=>by have:=h.1;simp at this
 | _::_,[],_,_,h,_=>by have:=h.1;simp at this
 | e::es,e'::es',i,r,h,hf=>by
   obtain ⟨⟨_,h1,h2⟩,h3⟩:=h.tail
   simp only [Instr.findNow] at hf
   split at hf
   ·rename_i hs
    cases hf
    obtain ⟨g1,g2⟩:=ZfL hk h1 hs
    exact .inr ⟨i,_,e'.val,rfl,by simp only [Instr.findNow,g1],h2,Nat.le_refl _,e',by simp,g2 rfl⟩
   ·rename_i hs
    obtain ⟨g1,_⟩:=ZfL hk h1 hs
    rcases Zbl hk es es' (i+1) r h3 hf with ⟨a,b⟩ | ⟨m,v,v',a,b,c,d',e1,e2,e3⟩
    ·exact .inl ⟨a,by simp only [Instr.findNow,g1,b]⟩
    ·refine .inr ⟨m,v,v',a,by simp only [Instr.findNow,g1,b],c,by omega,e1,?_,e3⟩
     rw [show m - i=(m - (i+1))+1 by omega]
     simpa using e2
   ·cases hf
theorem ZaX {k:TypeId} {d:TypeDesc} (hu:P.underlying k=some d) (hd:Zf3 d=true) (b:Bool) (n:Nat) (v:Value) (W:World):(Instr.checkKey b (n+1) k v).run P W= .ok () W:=by
 cases d<;>simp [Zf3] at hd<;>simp [Instr.checkKey,Zab hu]
theorem Zbm {k:TypeId} {d:TypeDesc} (hu:P.underlying k=some d) {v:Value} {es:List MapEntry} {r:Option (Nat × Value)} (hf:Instr.findNow d v es 0=some r) (W:World):(Instr.findKey k v es).run P W= .ok r W:=by
 simp [Instr.findKey,Zab hu,hf]
theorem Zow (r:RH φ h w) {x x':Value} (hx:RV φ x x') {es:List MapEntry} (hs:imap h x=some es) :
  (x'= .map none∧es=[])∨∃ b es' c,x'= .map (some b)∧w.heap[b]? =some (.map es' c)∧REs φ es es'.toList:=by
 unfold imap at hs
 split at hs
 ·cases hx
  cases hs
  exact .inl ⟨rfl,rfl⟩
 ·split at hs
  ·rename_i es0 c hg
   cases hs
   cases hx with
   | map _ l hb =>
     obtain ⟨es',g1,g2⟩:=Zms r hb hg
     exact .inr ⟨_,es',c,rfl,g1,g2⟩
  ·cases hs
 ·cases hs
theorem ZgL {t kt e:TypeId} {d:TypeDesc} (hu:P.underlying t=some (.map kt e)) (huk:P.underlying kt=some d) (hkk:Zf3 d=true) {x' k':Value} {es':List MapEntry}
  (hes:x'= .map none∧es'=[]∨∃ b c,x'= .map (some b)∧w.heap[b]? =some (.map es'.toArray c)) {r:Option (Nat × Value)} (hf:Instr.findNow d k' es' 0=some r) (ok:Bool) :
  (Instr.lookup t x' k' ok).run P w=(match r with | some (_,v)=>pure (if ok then .tuple #[v,.bool true] else v) | none=>(do let z ← zeroValue e;pure (if ok then .tuple #[z,.bool false] else z)):Sem Value).run P w:=by
 rcases hes with ⟨rfl,rfl⟩ | ⟨b,c,rfl,hb⟩
 ·cases r with
  | none=>simp [Instr.lookup,Zab hu,ZaX huk hkk,Zbm huk hf]
  | some p=>simp [Instr.findNow] at hf
 ·have hget:(getObj b).run P w= .ok (.map es'.toArray c) w:=by simp [getObj,Sem.run,hb]
  cases r with
  | none=>simp [Instr.lookup,Zab hu,hget,ZaX huk hkk,Zbm huk hf]
  | some p=>simp [Instr.lookup,Zab hu,hget,ZaX huk hkk,Zbm huk hf]
theorem Zid (r:RH φ h w) {t:TypeId} {x k x' k' v:Value} {ok:Bool} (hx:RV φ x x') (hk:RV φ k k') (hi:Zhw P h t x k ok=some v):ZaK P low φ h w (Instr.lookup t x' k' ok) v h:=by
 unfold Zhw at hi
 split at hi
 case h_2=>cases hi
 rename_i d e es hm hs
 obtain ⟨kt,hu,huk,hkk⟩:=Zd8 hm
 obtain ⟨es',hes,hrel⟩:∃ es':List MapEntry,(x'= .map none∧es'=[]∨∃ b c,x'= .map (some b)∧w.heap[b]? =some (.map es'.toArray c))∧REs φ es es':=by
  rcases Zow r hx hs with ⟨a,rfl⟩ | ⟨b,es',c,a,g,q⟩
  ·exact ⟨[],.inl ⟨a,rfl⟩,REs.nil⟩
  ·exact ⟨es'.toList,.inr ⟨b,c,a,by simpa using g⟩,q⟩
 unfold Zpo at hi
 split at hi
 ·rename_i i u hf
  cases hi
  rcases Zbl hk es es' 0 _ hrel hf with ⟨a,_⟩ | ⟨m,v,v',a,b,c,_⟩
  ·cases a
  ·cases a
   refine ZaK.of r (v':=if ok then .tuple #[v',.bool true] else v') ?_ ?_
   ·rw [ZgL hu huk hkk hes b]
    rfl
   ·cases ok
    ·simpa using c
    ·exact RV.tuple #[u,.bool true] #[v',.bool true] rfl (RL.cons c (RL.cons (.bool true) (RL.nil φ))).2
 ·rename_i hf
  split at hi
  ·rename_i z hz
   split at hi
   ·rename_i hp
    cases hi
    rcases Zbl hk es es' 0 _ hrel hf with ⟨_,b⟩ | ⟨m,v,v',a,_⟩
    ·refine ZaK.of r (v':=if ok then .tuple #[z,.bool false] else z) ?_ ?_
     ·rw [ZgL hu huk hkk hes b]
      simp [Zb7 hz]
     ·have c:=RV.plain φ hp
      cases ok
      ·simpa using c
      ·exact RV.tuple #[z,.bool false] #[z,.bool false] rfl (RL.cons c (RL.cons (.bool false) (RL.nil φ))).2
    ·cases a
   ·cases hi
  ·cases hi
 ·cases hi
theorem Zjw (r:RH φ h w) {t:TypeId} {m k v m' k' v':Value} {h':Heap} (hm:RV φ m m') (hk:RV φ k k') (hv:RV φ v v') (hi:ZcI P low h t m k v=some h') :
  ∃ w',(Instr.mapUpdate t m' k' v').run P w= .ok () w'∧Goes low φ h w φ h' w':=by
 unfold ZcI at hi
 split at hi
 case h_2=>cases hi
 rename_i d e b hmo
 obtain ⟨kt,hu,huk,hkk⟩:=Zd8 hmo
 split at hi
 case h_2=>cases hi
 rename_i es clock hg
 split at hi
 case isFalse=>cases hi
 rename_i hlow
 split at hi
 case h_2=>cases hi
 rename_i x hx
 cases hi
 cases hm with
 | map _ l hb =>
 obtain ⟨es',hobj,hrel⟩:=Zms r hb hg
 have hget:(getObj l.blk).run P w= .ok (.map es' clock) w:=by simp [getObj,Sem.run,hobj]
 have hset:∀ o,(setObj l.blk o).run P w= .ok () (World.putObj w l.blk o):=fun o=>by simp [setObj,Sem.run,hobj,World.putObj]
 unfold Zsz at hx
 split at hx
 ·rename_i i u hf
  cases hx
  rcases Zbl hk es es'.toList 0 _ hrel hf with ⟨a,_⟩ | ⟨m,u',v'',a,b',c,_,e',g1,g2⟩
  ·cases a
  ·cases a
   have hi1:es'[i]? =some e':=by simpa using g1
   have hk1:(Instr.keyThatStays (((es'[i]?).map (·.key)).getD k') k').run P w= .ok k' w:=by
    simp [hi1,Instr.keyThatStays,g2]
   refine ⟨World.putObj w l.blk (.map (es'.modify i fun e=>{ e with key:=k',val:=v' }) clock),?_,?_⟩
   ·simp only [Instr.mapUpdate,Sem.run_bind,Zab hu,Result.andThen_ok,hget,ZaX huk hkk,Zbm huk b',hk1,hset]
   ·refine Goes.update r hb hlow YQ YU ⟨rfl,by simpa using hrel.1,?_⟩
    intro j f f' hf1 hf2
    rw [List.getElem?_modify] at hf1
    rw [Array.getElem?_toList,Array.getElem?_modify] at hf2
    by_cases hij:i=j
    ·subst hij
     simp only [if_true] at hf1 hf2
     obtain ⟨f0,q1,rfl⟩:=Option.map_eq_some_iff.1 hf1
     obtain ⟨f0',q2,rfl⟩:=Option.map_eq_some_iff.1 hf2
     exact ⟨(hrel.2 i f0 f0' q1 (by simpa using q2)).1,hk,hv⟩
    ·simp only [hij,if_false] at hf1 hf2
     exact hrel.2 j f f' (by simpa using hf1) (by simpa using hf2)
 ·rename_i hf
  cases hx
  rcases Zbl hk es es'.toList 0 _ hrel hf with ⟨_,b'⟩ | ⟨m,v,v',a,_⟩
  ·refine ⟨World.putObj w l.blk (.map (es'.push { key:=k',val:=v',born:=clock }) (clock+1)),?_,?_⟩
   ·simp only [Instr.mapUpdate,Sem.run_bind,Zab hu,Result.andThen_ok,hget,ZaX huk hkk,Zbm huk b',hset]
   ·refine Goes.update r hb hlow YQ YU ⟨rfl,by simpa using hrel.1,?_⟩
    intro j f f' hf1 hf2
    rw [Array.toList_push] at hf2
    by_cases hj:j < es.length
    ·rw [List.getElem?_append_left hj] at hf1
     rw [List.getElem?_append_left (by rw [← hrel.1];exact hj)] at hf2
     exact hrel.2 j f f' hf1 hf2
    ·rw [List.getElem?_append_right Ya] at hf1
     rw [List.getElem?_append_right (by rw [← hrel.1];omega),← hrel.1] at hf2
     obtain hj0 | hj0:j - es.length=0∨0 < j - es.length:=by omega
     ·rw [hj0] at hf1 hf2
      simp at hf1 hf2
      subst hf1 hf2
      exact ⟨rfl,hk,hv⟩
     ·rw [List.getElem?_eq_none Yl] at hf1
      cases hf1
  ·cases a
 ·cases hx
theorem Zjx (r:RH φ h w) {t:TypeId} {m k m' k':Value} {h':Heap} (hm:RV φ m m') (hk:RV φ k k') (hi:ZcZ P low h t m k=some h') (ts:Array TypeId) (hts:ts[0]? =some t) (ty:TypeId) :
  ∃ w',(Builtin.delete_ ts ty #[m',k']).run P w= .ok (.tuple #[]) w'∧Goes low φ h w φ h' w':=by
 unfold ZcZ at hi
 split at hi
 ·rename_i d hmo
  obtain ⟨d,e⟩:=d
  obtain ⟨kt,hu,huk,hkk⟩:=Zd8 hmo
  cases hi
  cases hm
  refine ⟨w,?_,Goes.refl r⟩
  simp [Builtin.delete_,hts,Zab hu,ZaX huk hkk]
 ·rename_i d e b hmo
  obtain ⟨kt,hu,huk,hkk⟩:=Zd8 hmo
  split at hi
  case h_2=>cases hi
  rename_i es clock hg
  split at hi
  case isFalse=>cases hi
  rename_i hlow
  split at hi
  case h_2=>cases hi
  rename_i x hx
  cases hi
  cases hm with
  | map _ l hb =>
  obtain ⟨es',hobj,hrel⟩:=Zms r hb hg
  have hget:(getObj l.blk).run P w= .ok (.map es' clock) w:=by simp [getObj,Sem.run,hobj]
  have hset:∀ o,(setObj l.blk o).run P w= .ok () (World.putObj w l.blk o):=fun o=>by simp [setObj,Sem.run,hobj,World.putObj]
  unfold ZsO at hx
  split at hx
  ·rename_i i u hf
   cases hx
   rcases Zbl hk es es'.toList 0 _ hrel hf with ⟨a,_⟩ | ⟨m,u',v'',a,b',c,_,e',g1,g2⟩
   ·cases a
   ·cases a
    refine ⟨World.putObj w l.blk (.map (es'.eraseIdxIfInBounds i) clock),?_,?_⟩
    ·simp [Builtin.delete_,hts,Zab hu,hget,ZaX huk hkk,Zbm huk b',hset]
    ·have hi2:i < es'.size:=by have:=(List.getElem?_eq_some_iff.1 g1).1;simpa using this
     have hi1:i < es.length:=by have:=hrel.1;simp at this;omega
     have htl:(es'.eraseIdxIfInBounds i).toList=es'.toList.eraseIdx i:=by simp [Array.eraseIdxIfInBounds,hi2]
     refine Goes.update r hb hlow YQ YU ⟨rfl,?_,?_⟩
     ·have h0:=congrArg List.length htl
      simp only [Array.length_toList] at h0
      rw [h0,List.length_eraseIdx,List.length_eraseIdx,hrel.1]
     intro j f f' hf1 hf2
     rw [htl] at hf2
     rw [List.getElem?_eraseIdx] at hf1 hf2
     split at hf1
     ·exact hrel.2 _ _ _ hf1 (by simpa [*] using hf2)
     ·exact hrel.2 _ _ _ hf1 (by simpa [*] using hf2)
  ·rename_i hf
   cases hx
   rcases Zbl hk es es'.toList 0 _ hrel hf with ⟨_,b'⟩ | ⟨m,v,v',a,_⟩
   ·refine ⟨World.putObj w l.blk (.map es' clock),?_,?_⟩
    ·simp [Builtin.delete_,hts,Zab hu,hget,ZaX huk hkk,Zbm huk b',hset]
    ·exact Goes.update r hb hlow YQ YU ⟨rfl,by simpa using hrel.1,hrel.2⟩
   ·cases a
  ·cases hx
 ·cases hi
theorem ZkW {t:TypeId} {name:String} {f:FuncId} (hi:Zht P t name=some f) (n:Nat) (v:Value) (W:World):(method (n+1) t v name).run P W= .ok (f,v) W:=by
 unfold Zht at hi
 split at hi
 case h_2=>cases hi
 rename_i i hinfo
 split at hi
 case h_2=>cases hi
 rename_i m hm
 have hti:(typeInfo t).run P W= .ok i W:=by simp [typeInfo,hinfo]
 have hend:∀ (fp:FuncId × Bool) (s:Option String) (d:TypeDesc),m.path.toList=[]→m.func=some fp→P.underlying t=some d→(match d with | .pointer _=>fp.2=true | _=>fp.2=false)→(method (n+1) t v name).run P W= .ok (fp.1,v) W:=by
  intro fp s d h1 h2 h3 h4
  obtain ⟨f',pr⟩:=fp
  simp only [method,Sem.run_bind,hti,Result.andThen_ok,hm,h1,follow,Sem.run_pure,h2,receiverAt,Zab h3]
  cases d<;>simp only at h4<;>subst h4<;>simp [Place.get]
 split at hi
 ·rename_i f' e h1 h2 h3
  cases hi
  exact hend (_,true) none _ h1 h2 h3 rfl
 ·cases hi
 ·rename_i f' d hnp h1 h2 h3
  cases hi
  refine hend (_,false) none _ h1 h2 h3 ?_
  cases d<;>first | rfl | (exact absurd h3 (by first | exact hnp _ | simp_all))
 ·cases hi
end
end Go.Im
namespace Go.Im
section
variable {P:Program} {low:Nat} {φ:Zac} {h:Heap} {w:World}
theorem Zf7 {k:IntKind}:∀ {cs:List Value} {ns:List Int},Zdp k cs=some ns→cs=ns.map (Value.int k)
 | [],ns,h=>by simp [Zdp] at h;subst h;rfl
 | v::cs,ns,h=>by
   unfold Zdp at h
   split at h
   ·rename_i heq;cases heq
   ·rename_i k' n l heq
    cases heq
    split at h
    ·rename_i hk
     subst hk
     split at h
     ·rename_i ns' hns
      cases h
      rw [Zf7 hns]
      rfl
     ·cases h
    ·cases h
   ·cases h
theorem RL.ints {k:IntKind} {ns:List Int} {ys:List Value} (h:RL φ (ns.map (Value.int k)) ys):ys=ns.map (Value.int k):=by
 apply List.ext_getElem?
 intro i
 cases hx:(ns.map (Value.int k))[i]? with
 | none =>
   have:=List.getElem?_eq_none_iff.1 hx
   exact List.getElem?_eq_none (by rw [← h.1];exact this)
 | some x =>
   obtain ⟨y,hy,hr⟩:=h.get hx
   rw [hy]
   rw [List.getElem?_map,Option.map_eq_some_iff] at hx
   obtain ⟨n,_,rfl⟩:=hx
   cases hr
   rfl
theorem Zj2:∀ (ns:List Int) (s:ByteArray),ns.foldl (fun r n=>r.push (UInt8.ofNat n.toNat)) s=s++(⟨(ns.map fun n=>UInt8.ofNat n.toNat).toArray⟩:ByteArray)
 | [],s=>by
   apply ByteArray.ext
   simp
 | n::ns,s=>by
   rw [List.foldl_cons,Zj2 ns]
   apply ByteArray.ext
   simp [ByteArray.data_append,ByteArray.data_push]
theorem Ze0 (s:ByteArray):∀ (n i:Nat) (acc:Array Value),acc.toList.all atomic=true→(Conv.runesFrom s n i acc).toList.all atomic=true
 | 0,i,acc,h=>h
 | n+1,i,acc,h=>by
   unfold Conv.runesFrom
   split
   ·refine Ze0 s n _ _ ?_
    simp only [Array.toList_push,List.all_append,h,Bool.true_and]
    simp [atomic]
   ·exact h
theorem Zd9 (r:RH φ h w) {src dst:TypeId} {x x' v:Value} {h':Heap} (hx:RV φ x x') (hi:ZaF P h src dst x=some (v,h')):ZaK P low φ h w (convert src dst x') v h':=by
 unfold ZaF at hi
 split at hi
 ·rename_i k0 k k1 n h1 h2
  cases hi;cases hx
  exact ZaK.of r (v':= .int k (k.wrap n)) (by simp [convert,Zab h1,Zab h2,Conv.intToInt]) (.int _ _)
 ·rename_i k0 k1 n h1 h2
  cases hi;cases hx
  exact ZaK.of r (v':= .string (Utf8.encode n)) (by simp [convert,Zab h1,Zab h2,Conv.intToString]) (.string _)
 ·rename_i s h1 h2
  cases hi;cases hx
  exact ZaK.of r (v':= .string s) (by simp [convert,Zab h1,Zab h2]) (.string _)
 ·rename_i e s h1 h2
  cases hx
  split at hi
  ·rename_i he hs
   cases hi
   have hat:(s.data.toList.map fun b=>Value.int .u8 b.toNat).all atomic=true:=by
    rw [List.all_eq_true]
    intro x hx
    obtain ⟨b,_,rfl⟩:=List.mem_map.1 hx
    rfl
   generalize hcap:(Question.appendCap s.size 0 e).cut (w.tape w.drawn (.appendCap s.size 0 e))=cap
   have hle:s.size≤cap:=by rw [← hcap];simp [Question.cut]
   have hsz:((s.data.map fun b=>Value.int .u8 b.toNat)++Array.replicate (cap - s.size) (Value.int .u8 0)).size=cap:=by
    have:s.data.size=s.size:=rfl
    simp [this];omega
   have hrun:(convert src dst (.string s)).run P w= .ok (.slice (some ⟨w.heap.size,0,none⟩) s.size cap)
     { { w with drawn:=w.drawn+1 } with heap:=w.heap.push (.cells ((s.data.map fun b=>Value.int .u8 b.toNat)++Array.replicate (cap - s.size) (.int .u8 0)) e (cap,cap+1)) }:=by
    simp only [convert,Sem.run_bind,Zab h1,Zab h2,Zab he,Result.andThen_ok,Conv.stringToBytes,run_choose,Question.forced,Bool.false_eq_true,if_false,hcap,newRow,run_newObj,Sem.run_pure,
     markStringish,run_shape]
    have hshape:({ { w with drawn:=w.drawn+1 } with heap:=w.heap.push (.cells ((s.data.map fun b=>Value.int .u8 b.toNat)++Array.replicate (cap - s.size) (.int .u8 0)) e) }:World).shape? w.heap.size=some (e,cap):=by
     simp [World.shape?,hsz]
    rw [hshape]
    simp only [run_freeze,Result.andThen_ok,World.freeze,Nat.one_ne_zero,if_false]
    congr 2
    apply Array.ext_getElem?
    intro i
    simp only [Array.getElem?_modify,Array.getElem?_push]
    by_cases hi:w.heap.size=i
    ·subst hi;simp
    ·have:¬ i=w.heap.size:=fun e=>hi e.symm
     simp [hi,this]
   have hg:=(Goes.Zcp (low:=low) r (xs:=s.data.toList.map fun b=>Value.int .u8 b.toNat) (ys:=(s.data.map fun b=>Value.int .u8 b.toNat)++Array.replicate (cap - s.size) (.int .u8 0)) (esz:=1) e (cap,cap+1)
    Ya (ZbF hat) Yp (.inr (by rw [hsz];exact ⟨Nat.le_refl _,rfl⟩)) (fun i x hx=>⟨x,by
      have hi:=(List.getElem?_eq_some_iff.1 hx).1
      rw [Array.getElem?_append_left Yae]
      simpa using hx,RV.atomic φ (List.all_eq_true.1 hat x (List.mem_of_getElem? hx))⟩)).drew (w.drawn+1)
   refine ⟨_,_,_,hrun,hg,?_⟩
   have hdl:s.data.toList.length=s.size:=Yp
   refine RV.Zds _ rfl s.size cap hle ?_ ?_ ?_
   ·show s.size*1≤(s.data.toList.map fun b=>Value.int .u8 b.toNat).length
    simp
   ·show (s.data.toList.map fun b=>Value.int .u8 b.toNat).length≤cap*1
    simp;omega
   ·show cap*1≤((s.data.map fun b=>Value.int .u8 b.toNat)++Array.replicate (cap - s.size) (Value.int .u8 0)).size
    have:s.data.size=s.size:=rfl
    simp [this];omega
  ·rename_i he hs
   cases hi
   have hat:=Ze0 s s.size 0 #[] rfl
   generalize hrs:Conv.runesFrom s s.size 0 #[]=rs at hat ⊢
   generalize hcap:(Question.appendCap rs.size 0 e).cut (w.tape w.drawn (.appendCap rs.size 0 e))=cap
   have hle:rs.size≤cap:=by rw [← hcap];simp [Question.cut]
   have hrun:(convert src dst (.string s)).run P w= .ok (.slice (some ⟨w.heap.size,0,none⟩) rs.size cap)
     { { w with drawn:=w.drawn+1 } with heap:=w.heap.push (.cells (rs++Array.replicate (cap - rs.size) (.int .i32 0)) e) }:=by
    simp only [convert,Sem.run_bind,Zab h1,Zab h2,Zab he,Result.andThen_ok,Conv.stringToRunes,hrs,run_choose,Question.forced,Bool.false_eq_true,if_false,hcap,newRow,run_newObj,Sem.run_pure]
   have hg:=(Goes.Zcp (low:=low) r (xs:=rs.toList) (ys:=rs++Array.replicate (cap - rs.size) (.int .i32 0)) (esz:=1) e (0,0)
    Ya (ZbF hat) Yp (.inl rfl) (fun i x hx=>⟨x,by
      have hi:=(List.getElem?_eq_some_iff.1 hx).1
      rw [Array.getElem?_append_left Yae]
      simpa using hx,RV.atomic φ (List.all_eq_true.1 hat x (List.mem_of_getElem? hx))⟩)).drew (w.drawn+1)
   refine ⟨_,_,_,hrun,hg,?_⟩
   have e0:rs.toList.length=rs.size:=Yp
   rw [e0]
   refine RV.Zds _ rfl rs.size cap hle ?_ ?_ ?_
   ·show rs.size*1≤rs.size
    omega
   ·show rs.size≤cap*1
    omega
   ·show cap*1≤(rs++Array.replicate (cap - rs.size) (Value.int .i32 0)).size
    simp;omega
  ·cases hi
 ·rename_i e a n c h1 h2
  split at hi
  ·rename_i cs he hcs
   split at hi
   ·rename_i ns hns
    cases hi
    obtain ⟨a',c',cs',rfl,hrl,hlen,_,hfc⟩:=Zcr r hx hcs
    have e1:=Zf7 hns
    subst e1
    have e2:=RL.ints hrl
    subst e2
    refine ZaK.of r (v':= .string ⟨(ns.map fun n=>UInt8.ofNat n.toNat).toArray⟩) ?_ (.string _)
    rw [show (convert src dst (.slice a' n c')).run P w=(Conv.bytesToString (.slice a' n c')).run P w from by simp [convert,Zab h1,Zab h2,Zab he]]
    cases a' with
    | none =>
      have hn:n=0:=by cases hx;rfl
      subst hn
      have:ns=[]:=by simpa using hlen
      subst this
      simp [Conv.bytesToString]
      try rfl
    | some a' =>
      have hf:=hfc w.drawn
      simp only [Builtin.firstCells,Nat.mul_one] at hf
      have he:∀ x:ByteArray,ByteArray.empty++x=x:=by
       intro x
       apply ByteArray.ext
       simp
      rw [run_bytesToString (P:=P) w a' n c' ns hf,Zj2,he]
   ·cases hi
  ·rename_i cs he hcs
   split at hi
   ·rename_i ns hns
    cases hi
    obtain ⟨a',c',cs',rfl,hrl,hlen,_,hfc⟩:=Zcr r hx hcs
    have e1:=Zf7 hns
    subst e1
    have e2:=RL.ints hrl
    subst e2
    refine ZaK.of r (v':= .string (runesBytes ns)) ?_ (.string _)
    rw [show (convert src dst (.slice a' n c')).run P w=(Conv.runesToString (.slice a' n c')).run P w from by simp [convert,Zab h1,Zab h2,Zab he]]
    cases a' with
    | none =>
      have hn:n=0:=by cases hx;rfl
      subst hn
      have:ns=[]:=by simpa using hlen
      subst this
      simp [Conv.runesToString,runesBytes]
    | some a' =>
      have hf:=hfc w.drawn
      simp only [Builtin.firstCells,Nat.mul_one] at hf
      exact run_runesToString (P:=P) w a' n c' ns hf
   ·cases hi
  ·cases hi
 ·cases hi
theorem Zjf (r:RH φ h w) {t:TypeId} {a:Option Addr} {n c:Nat} {x' v:Value} {h':Heap} (hx:RV φ (.slice a n c) x') (hi:Ziq P low h t a n c=some (v,h')):ZaK P low φ h w (convert t t x') v h':=by
 unfold Ziq at hi
 split at hi
 ·rename_i e b o hu
  split at hi
  ·rename_i cs esz he hg
   split at hi
   ·rename_i hc
    cases hi
    obtain ⟨l,c',hl,rfl⟩:∃ (l:Loc) (c':Nat),φ b=some l∧x'= .slice (some ⟨l.blk,l.off+o,none⟩) n c':=by
     cases hx with
     | known _ _ _ _ l hl _ _ _=>exact ⟨l,c,hl,rfl⟩
     | unknown _ _ _ c' l hl _ _ _ _=>exact ⟨l,c',hl,rfl⟩
     | spent=>exact absurd hc.2.1 (Nat.lt_irrefl _)
     | void=>exact absurd hc.2.1 (Nat.lt_irrefl _)
    obtain ⟨ob,hob,hrb⟩:=r.blk b l hl
    rw [hg] at hrb
    cases ob with
    | cells cc et fr =>
      simp only [RB] at hrb
      obtain ⟨q1,q2,q3,q4,q5,q6,q7⟩:=hrb
      obtain ⟨f1,f2⟩:=fr
      have hsh:w.shape? l.blk=some (et,cc.size):=by simp [World.shape?,hob]
      have hrun:(convert t t (.slice (some ⟨l.blk,l.off+o,none⟩) n c')).run P w= .ok (.slice (some ⟨l.blk,l.off+o,none⟩) n c') (World.putObj w l.blk (.cells cc et (if f1 == f2 then (cc.size,cc.size+1) else (min f1 cc.size,max f2 (cc.size+1))))):=by
       simp only [convert,Sem.run_bind,Zab hu,Zab he,Result.andThen_ok,beq_self_eq_true,markStringish,run_shape,hsh,run_freeze,Sem.run_pure]
       congr 1
       simp only [World.freeze,Nat.one_ne_zero,if_false,World.putObj]
       congr 1
       apply Array.ext_getElem?
       intro i
       simp only [Array.getElem?_modify,Array.getElem?_setIfInBounds]
       by_cases hib:l.blk=i
       ·subst hib
        obtain ⟨hlt,hob'⟩:=Array.getElem?_eq_some_iff.1 hob
        rw [if_pos rfl,if_pos rfl,hob,if_pos hlt]
        rfl
       ·rw [if_neg hib,if_neg hib]
      refine ⟨φ,_,_,hrun,Goes.update r hl hc.1 YQ YU ?_,hx⟩
      refine ⟨q1,q2,q3,q4,q5,.inr ⟨?_,hc.2.2⟩,q7⟩
      split
      ·exact Nat.le_refl _
      ·rename_i hne
       rcases q6 with q6 | q6
       ·cases q6
        simp at hne
       ·simp only at q6 ⊢
        omega
    | _=>simp [RB] at hrb
   ·cases hi
  ·cases hi
 ·cases hi
theorem ZkZ (r:RH φ h w) {src dst:TypeId} {x x' v:Value} {h':Heap} (hx:RV φ x x') (hi:ZdH P low h src dst x=some (v,h')):ZaK P low φ h w (convert src dst x') v h':=by
 unfold ZdH at hi
 split at hi
 ·split at hi
  ·rename_i hsd
   subst hsd
   exact Zjf r hx hi
  ·exact Zd9 r hx hi
 ·exact Zd9 r hx hi
theorem ZoD {op:BinOp} {t:TypeId} {x y x' y' v:Value} (hx:RV φ x x') (hy:RV φ y y') (hi:ibin op x y=some v) :
  (∀ W,(binOp op t x' y').run P W= .ok v W)∧x=x'∧y=y'∧(∀ a,x≠ .agg a)∧x≠ .nilIface∧RV φ v v:=by
 unfold ibin at hi
 split at hi
 all_goals (first | (cases hi;done) | skip)
 all_goals cases hx
 all_goals cases hy
 all_goals (try (split at hi<;>first | (cases hi;done) | skip))
 all_goals (try (split at hi<;>first | (cases hi;done) | skip))
 all_goals (try cases hi)
 all_goals (try (rename_i heq;simp only [Op.intBits] at heq;cases heq))
 all_goals (refine ⟨fun W=> ?_,rfl,rfl,(fun a h=>by cases h),(fun h=>by cases h),?_⟩)
 all_goals (first | (constructor;done) | skip)
 all_goals (try (simp_all [binOp,Op.shift,Op.intArith,Op.intDiv,Op.intCmp,Op.stringOp,Op.intBits];done))
 ·rename_i b hb
  simp only [binOp,Op.shift,if_neg hb]
  rfl
 ·rename_i b hb
  simp only [binOp,Op.shift,if_neg hb]
  rfl
 ·rename_i a b hab
  have hm:IntKind.i64.max=9223372036854775807:=Ye
  have:¬ (((a.size+b.size:Nat):Int) > IntKind.i64.max):=by rw [hm];omega
  simp only [binOp,Op.stringOp,if_neg this]
  rfl
theorem ZdI {op:BinOp} {t:TypeId} {x y:Operand} {a b:Value} (h1:¬ (a= .nilIface∧b= .nilIface)) (h2:¬ ∃ c d,a= .agg c∧b= .agg d) (W:World):(eqGuard op t x y a b).run P W= .ok () W:=by
 unfold eqGuard
 have key:∀ m:Sem Unit,m.run P W= .ok () W→(if (!true)=true then Pure.pure () else m).run P W= .ok () W:=by
  intro m hm
  simpa using hm
 cases op<;>first | rfl | (refine key _ ?_;split;exact absurd ⟨rfl,rfl⟩ h1;exact absurd ⟨_,_,rfl,rfl⟩ h2;rfl)
theorem Zgf {t:TypeId} {d:TypeDesc} (ht:P.underlying t=some d) {x y x' y':Value} (hx:RV φ x x') (hy:RV φ y y') {b:Bool} (hi:ieqv d x y=some b) (W:World) :
  (Op.equal t x' y').run P W= .ok b W∧¬ (x'= .nilIface∧y'= .nilIface)∧¬ ∃ c d,x'= .agg c∧y'= .agg d:=by
 unfold ieqv at hi
 split at hi
 all_goals (first | (cases hi;done) | skip)
 all_goals cases hi
 all_goals cases hx
 all_goals cases hy
 all_goals (refine ⟨?_,by simp,by simp⟩)
 all_goals (suffices key:∀ d,(Op.equalIn (d+1) t _ _).run P W=_ from key 9999)
 all_goals (intro d;simp only [Op.equalIn,Sem.run_bind,Zab ht,Result.andThen_ok,Sem.run_pure])
 all_goals (first | rfl | simp_all)
theorem Ze9 {xs ys xs' ys':Array Value} (hx:RL φ xs.toList xs'.toList) (hy:RL φ ys.toList ys'.toList):∀ (fs:List Field) {l:List (TypeDesc × Nat)} {b:Bool},Zko P fs=some l→ZcK xs ys l=some b →
  ∀ (W:World) (d:Nat),(Op.eqFields (d+1) xs' ys' fs).run P W= .ok b W
 | [],l,b,hl,hb,W,d=>by
   cases hl
   cases hb
   simp [Op.eqFields]
 | f::fs,l,b,hl,hb,W,d=>by
   unfold Zko at hl
   split at hl
   ·rename_i x l' hf hfs
    cases hl
    unfold Zs1 at hf
    split at hf
    ·cases hf
    ·rename_i hn
     obtain ⟨dd,oo⟩:=x
     simp only [ZcK,andO] at hb
     split at hb
     ·rename_i b1 b2 h1 h2
      cases hb
      have ih:=Ze9 hx hy fs hfs h2 W d
      have get:∀ {o:Nat} {a b:Value} ,xs[o]? =some a→ys[o]? =some b→∃ a' b',xs'[o]? =some a'∧ys'[o]? =some b'∧RV φ a a'∧RV φ b b':=by
       intro o a b ha hb
       obtain ⟨a',h1,h2⟩:=hx.get (i:=o) (x:=a) (by simpa using ha)
       obtain ⟨b',h3,h4⟩:=hy.get (i:=o) (x:=b) (by simpa using hb)
       exact ⟨a',b',by simpa using h1,by simpa using h3,h2,h4⟩
      have fin:∀ {a b:Value} {u:TypeDesc},xs'[f.offset]? =some a→ys'[f.offset]? =some b→P.underlying f.type=some u→(isAgg f.type).run P W= .ok false W→(Op.equalIn (d+1) f.type a b).run P W= .ok b1 W→(Op.eqFields (d+1) xs' ys' (f::fs)).run P W= .ok (b1 && b2) W:=by
       intro a b u ha hb hu hagg heq
       have p1:(part f.type xs' f.offset).run P W= .ok a W:=by simp [part,hagg,ha]
       have p2:(part f.type ys' f.offset).run P W= .ok b W:=by simp [part,hagg,hb]
       simp only [Op.eqFields,if_pos hn,Sem.run_bind,p1,p2,heq,Result.andThen_ok]
       cases b1
       ·simp
       ·simpa using ih
      split at hf
      ·rename_i hu
       cases hf
       unfold feq at h1
       split at h1
       ·rename_i a b ha hb
        cases h1
        obtain ⟨a',b',g1,g2,r1,r2⟩:=get ha hb
        cases r1
        cases r2
        exact fin g1 g2 hu (by simp [isAgg,Zab hu]) (run_equalIn_bool' W d f.type _ _ hu)
       ·cases (by assumption:(TypeDesc.bool)=_)
       ·cases (by assumption:(TypeDesc.bool)=_)
       ·cases h1
      ·rename_i k hu
       cases hf
       unfold feq at h1
       split at h1
       ·cases (by assumption:(TypeDesc.int k)=_)
       ·rename_i a b _ ha hb
        split at h1
        ·rename_i hk
         subst hk
         cases h1
         obtain ⟨a',b',g1,g2,r1,r2⟩:=get ha hb
         cases r1
         cases r2
         exact fin g1 g2 hu (by simp [isAgg,Zab hu]) (run_equalIn_int W d f.type _ _ _ _ hu)
        ·cases h1
       ·cases (by assumption:(TypeDesc.int k)=_)
       ·cases h1
      ·rename_i hu
       cases hf
       unfold feq at h1
       split at h1
       ·cases (by assumption:(TypeDesc.string)=_)
       ·cases (by assumption:(TypeDesc.string)=_)
       ·rename_i a b ha hb
        cases h1
        obtain ⟨a',b',g1,g2,r1,r2⟩:=get ha hb
        cases r1
        cases r2
        exact fin g1 g2 hu (by simp [isAgg,Zab hu]) (run_equalIn_string W d f.type _ _ hu)
       ·cases h1
      ·cases hf
     ·cases hb
   ·cases hl
theorem Zic (r:RH φ h w) {op:BinOp} {t:TypeId} {ox oy:Operand} {x y x' y' v:Value} (hx:RV φ x x') (hy:RV φ y y') {b:Bool} (hb:Zhp P t x y=some b) (hv:Zm8 op b=some v) :
  ZaK P low φ h w (do eqGuard op t ox oy x' y';binOp op t x' y') v h:=by
 unfold Zhp at hb
 split at hb
 ·rename_i xs ys
  split at hb
  ·rename_i l hl
   unfold Zs0 at hl
   split at hl
   ·rename_i fs hu
    split at hl
    ·cases hl
    ·rename_i hc
     have hc1:P.stoodInHeld t=false:=by
      cases hs:P.stoodInHeld t
      ·rfl
      ·exact absurd (.inl hs) hc
     have hc2:P.eqGuardType P.depth t=false:=by
      cases hs:P.eqGuardType P.depth t
      ·rfl
      ·exact absurd (.inr hs) hc
     obtain ⟨xs',rfl,hxl⟩:∃ xs',x'= .agg xs'∧RL φ xs.toList xs'.toList:=by
      cases hx
      exact ⟨_,rfl,by assumption,by assumption⟩
     obtain ⟨ys',rfl,hyl⟩:∃ ys',y'= .agg ys'∧RL φ ys.toList ys'.toList:=by
      cases hy
      exact ⟨_,rfl,by assumption,by assumption⟩
     have hfo:P.fieldsOf t=fs:=by simp [Program.fieldsOf,hu]
     have heq:∀ W,(Op.equalIn 10000 t (.agg xs') (.agg ys')).run P W= .ok b W:=fun W=>by
      rw [run_equalIn_struct W 9999 t _ _ (by rw [hfo];exact hu) hc1,hfo]
      exact Ze9 hxl hyl fs.toList hl hb W 9998
     unfold Zm8 at hv
     split at hv
     ·cases hv
      refine ZaK.of r (v':= .bool b) ?_ (.bool b)
      simp only [Sem.run_bind,run_eqGuard_agg w .eql t ox oy _ _ hc2,Result.andThen_ok,run_eql_struct,heq]
     ·cases hv
      refine ZaK.of r (v':= .bool (!b)) ?_ (.bool _)
      simp only [Sem.run_bind,run_eqGuard_agg w .neq t ox oy _ _ hc2,Result.andThen_ok,run_neq_struct,heq]
     ·cases hv
   ·cases hl
  ·cases hb
 ·cases hb
theorem Zjh (r:RH φ h w) {op:BinOp} {t:TypeId} {ox oy:Operand} {x y x' y' v:Value} (hx:RV φ x x') (hy:RV φ y y') (hi:Zaj P op t x y=some v) :
  ZaK P low φ h w (do eqGuard op t ox oy x' y';binOp op t x' y') v h:=by
 unfold Zaj at hi
 split at hi
 ·rename_i v' hb
  cases hi
  obtain ⟨h1,rfl,rfl,h2,h3,h4⟩:=ZoD (P:=P) (t:=t) hx hy hb
  refine ZaK.of r (v':=v) ?_ h4
  simp only [Sem.run_bind,ZdI (P:=P) (op:=op) (t:=t) (x:=ox) (y:=oy) (a:=x) (b:=y) (fun hh=>h3 hh.1) (fun hh=>by obtain ⟨c,d,hc,_⟩:=hh;exact h2 c hc) w,Result.andThen_ok,h1 w]
 ·split at hi
  ·cases hi
  ·rename_i d hd
   split at hi
   ·split at hi
    ·cases hi
    ·rename_i b hb
     exact Zic r hx hy hb hi
   ·rename_i b hb
    obtain ⟨h1,h2,h3⟩:=Zgf hd hx hy hb w
    have hform:((binOp .eql t x' y').run P w=((Op.equal t x' y').run P w).andThen fun b w=> .ok (.bool b) w) ∧
      ((binOp .neq t x' y').run P w=((Op.equal t x' y').run P w).andThen fun b w=> .ok (.bool (!b)) w):=by
     unfold ieqv at hb
     split at hb
     all_goals (first | (cases hb;done) | skip)
     all_goals cases hx
     all_goals cases hy
     all_goals (constructor<;>simp only [binOp,Sem.run_bind,Sem.run_pure])
    split at hi
    ·cases hi
     refine ZaK.of r (v':= .bool b) ?_ (.bool b)
     simp only [Sem.run_bind,ZdI (P:=P) (op:= .eql) (t:=t) (x:=ox) (y:=oy) h2 h3 w,Result.andThen_ok]
     rw [hform.1,h1]
     rfl
    ·cases hi
     refine ZaK.of r (v':= .bool (!b)) ?_ (.bool _)
     simp only [Sem.run_bind,ZdI (P:=P) (op:= .neq) (t:=t) (x:=ox) (y:=oy) h2 h3 w,Result.andThen_ok]
     rw [hform.2,h1]
     rfl
    ·cases hi
theorem Zco (mx:Bool) (k:IntKind):∀ (l l':List Value) (x:Int) (v:Value),RL φ l l'→ZbY mx k x l=some v →
  ∀ W,(l'.foldlM (if mx then Builtin.max2 else Builtin.min2) (.int k x)).run P W= .ok v W∧RV φ v v
 | [],l',x,v,hl,hi,W=>by
   have:l'=[]:=List.eq_nil_of_length_eq_zero hl.1.symm
   subst this
   simp only [ZbY] at hi
   cases hi
   exact ⟨by simp,.int _ _⟩
 | y::l,[],x,v,hl,hi,W=>by have:=hl.1;simp at this
 | y::l,y'::l',x,v,hl,hi,W=>by
   unfold ZbY at hi
   split at hi
   ·rename_i heq;cases heq
   ·rename_i x0 k' y0 rest heq
    cases heq
    split at hi
    ·rename_i hk
     subst hk
     have hy:=hl.tail.1
     cases hy
     have ih:=Zco mx k l l' _ v hl.tail.2 hi W
     cases mx
     ·simp only [Bool.false_eq_true,if_false] at ih ⊢
      rw [List.foldlM_cons,Sem.run_bind]
      simp only [Builtin.min2,Sem.run_pure,Result.andThen_ok]
      exact ih
     ·simp only [if_true] at ih ⊢
      rw [List.foldlM_cons,Sem.run_bind]
      simp only [Builtin.max2,Sem.run_pure,Result.andThen_ok]
      exact ih
    ·cases hi
   ·cases hi
theorem Zbz:∀ (n i:Nat) (a:Addr) (acc:Array Value) (r:Array Value),(loadCellsFrom a i n acc).run P w= .ok r w→(r.extract 0 acc.size)=acc
 | 0,i,a,acc,r,h=>by
   simp only [loadCellsFrom,Sem.run_pure] at h
   injection h with h
   subst h
   simp
 | n+1,i,a,acc,r,h=>by
   simp only [loadCellsFrom,Sem.run_bind] at h
   cases hq:(load (a.add i)).run P w with
   | halt x y=>rw [hq] at h;simp at h
   | ok v w1 =>
     rw [hq] at h
     simp only [Result.andThen_ok] at h
     have hw:w=w1:=by
      simp only [run_load] at hq
      split at hq
      ·injection hq with _ hq
      ·split at hq
       ·injection hq with _ hq
       ·cases hq
     subst hw
     have ih:=Zbz n (i+1) a (acc.push v) r h
     have:=congrArg (fun x:Array Value=>x.extract 0 acc.size) ih
     simpa using this
theorem Zbn:∀ (n m i:Nat) (a:Addr) (acc:Array Value) (cs:List Value),(loadCellsFrom a i n acc).run P w= .ok (acc.toList++cs).toArray w→cs.length=n→m≤n →
  (loadCellsFrom a i m acc).run P w= .ok (acc.toList++cs.take m).toArray w
 | n,0,i,a,acc,cs,h,hl,hm=>by simp [loadCellsFrom]
 | 0,m+1,i,a,acc,cs,h,hl,hm=>by omega
 | n+1,m+1,i,a,acc,[],h,hl,hm=>by simp at hl
 | n+1,m+1,i,a,acc,c::cs,h,hl,hm=>by
   simp only [loadCellsFrom,Sem.run_bind] at h ⊢
   cases hq:(load (a.add i)).run P w with
   | halt x y=>rw [hq] at h;simp at h
   | ok v w1 =>
     rw [hq] at h
     simp only [Result.andThen_ok] at h ⊢
     have hw:w=w1:=by
      simp only [run_load] at hq
      split at hq
      ·injection hq with _ hq
      ·split at hq
       ·injection hq with _ hq
       ·cases hq
     subst hw
     have hv:v=c:=by
      have hsz:=Zbz n (i+1) a (acc.push v) _ h
      have:=congrArg (fun x=>x[acc.size]?) hsz
      exact (by simpa using this:c=v).symm
     subst hv
     have:=Zbn n m (i+1) a (acc.push v) cs YO (by simpa using hl) Ya
     simpa using this
theorem Zdn {a:Addr} {n m:Nat} {cs:List Value} (h:(loadCells a n).run P w= .ok cs.toArray w) (hl:cs.length=n) (hm:m≤n):(loadCells a m).run P w= .ok (cs.take m).toArray w:=by
 have:=Zbn (P:=P) (w:=w) n m 0 a #[] cs (by simpa [loadCells] using h) hl hm
 simpa [loadCells] using this
theorem Zgi (r:RH φ h w) {b:Builtin} {ts:Array TypeId} {ty:TypeId} {cs:Array Bool} {args args':List Value} (hargs:RL φ args args') {v:Value}
  (hi:Zbe P b ts args=some v):∃ v',(builtin b ts ty cs args'.toArray).run P w= .ok (.value v') w∧RV φ v v':=by
 have lift:∀ {s:Sem Value} {v':Value},s.run P w= .ok v' w→RV φ v v'→(builtin b ts ty cs args'.toArray).run P w=(do pure (Next.value (← s)):Sem Next).run P w →
   ∃ v',(builtin b ts ty cs args'.toArray).run P w= .ok (.value v') w∧RV φ v v':=by
  intro s v' h1 h2 he
  exact ⟨v',by rw [he];simp [h1],h2⟩
 unfold Zbe at hi
 split at hi
 ·rename_i x
  obtain ⟨y,rfl⟩:∃ y,args'=[y]:=by
   match args',hargs with
   | [y],_=>exact ⟨y,rfl⟩
   | [],hh=>have:=hh.1;simp at this
   | _::_::_,hh=>have:=hh.1;simp at this
  have hxy:=hargs.tail.1
  split at hi
  ·rename_i s ht
   cases hi;cases hxy
   obtain ⟨t,ht0,ht1⟩:=Option.bind_eq_some_iff.1 ht
   exact lift (s:=Builtin.len_ ts ty #[.string s]) (v':= .int .i64 s.size) Yab (.int _ _) rfl
  ·rename_i a n c ht
   cases hi
   obtain ⟨a',c',rfl⟩:=Zdx hxy
   obtain ⟨t,ht0,ht1⟩:=Option.bind_eq_some_iff.1 ht
   exact lift (s:=Builtin.len_ ts ty #[.slice a' n c']) (v':= .int .i64 n) Yab (.int _ _) rfl
  ·rename_i n _ ht
   cases hi
   obtain ⟨t,ht0,ht1⟩:=Option.bind_eq_some_iff.1 ht
   exact lift (s:=Builtin.len_ ts ty #[y]) (v':= .int .i64 n) Yab (.int _ _) rfl
  ·cases hi
 ·unfold ZbZ at hi
  split at hi
  ·rename_i k x rest
   cases args' with
   | nil=>have:=hargs.1;simp at this
   | cons y l' =>
     have hy:=hargs.tail.1
     cases hy
     obtain ⟨h1,h2⟩:=Zco (P:=P) true k rest l' x v hargs.tail.2 hi w
     refine lift (s:=Builtin.max_ ts ty (Value.int k x::l').toArray) (v':=v) ?_ ?_ rfl
     ·simpa [Builtin.max_] using h1
     ·exact (Zco (P:=P) true k rest l' x v hargs.tail.2 hi w).2
  ·cases hi
 ·unfold ZbZ at hi
  split at hi
  ·rename_i k x rest
   cases args' with
   | nil=>have:=hargs.1;simp at this
   | cons y l' =>
     have hy:=hargs.tail.1
     cases hy
     obtain ⟨h1,h2⟩:=Zco (P:=P) false k rest l' x v hargs.tail.2 hi w
     refine lift (s:=Builtin.min_ ts ty (Value.int k x::l').toArray) (v':=v) ?_ ?_ rfl
     ·simpa [Builtin.min_] using h1
     ·exact (Zco (P:=P) false k rest l' x v hargs.tail.2 hi w).2
  ·cases hi
 ·cases hi
theorem Zhi (r:RH φ h w) {b:Builtin} {ts:Array TypeId} {ty:TypeId} {cs:Array Bool} {args args':List Value} (hargs:RL φ args args') {v:Value} {h':Heap}
  (hi:ZaG P low h b ts args=some (v,h')) :
  ∃ ψ w' v',(builtin b ts ty cs args'.toArray).run P w= .ok (.value v') w'∧Goes low φ h w ψ h' w'∧RV ψ v v':=by
 have lift:∀ {s:Sem Value},ZaK P low φ h w s v h'→(builtin b ts ty cs args'.toArray).run P w=(do pure (Next.value (← s)):Sem Next).run P w →
   ∃ ψ w' v',(builtin b ts ty cs args'.toArray).run P w= .ok (.value v') w'∧Goes low φ h w ψ h' w'∧RV ψ v v':=by
  intro s ⟨ψ,w',v',h1,h2,h3⟩ he
  exact ⟨ψ,w',v',by rw [he];simp [h1],h2,h3⟩
 unfold ZaG at hi
 split at hi
 ·
  rename_i s x
  obtain ⟨s',x',rfl⟩:∃ s' x',args'=[s',x']:=by
   match args',hargs with
   | [y,z],_=>exact ⟨y,z,rfl⟩
   | [],hh=>have:=hh.1;simp at this
   | [_],hh=>have:=hh.1;simp at this
   | _::_::_::_,hh=>have:=hh.1;simp at this
  split at hi
  case isFalse=>cases hi
  rename_i h2
  obtain ⟨t1,t2,rfl⟩:∃ t1 t2,ts= #[t1,t2]:=by
   refine ⟨ts[0],ts[1],?_⟩
   apply Array.ext
   ·simp [h2]
   ·intro i hi1 hi2
    have:i=0∨i=1:=by omega
    rcases this with rfl | rfl<;>simp
  exact lift (s:=Builtin.append_ #[t1,t2] ty #[s',x']) (Zie r hargs.tail.1 hargs.tail.2.tail.1 hi) rfl
 ·
  rename_i b0 o n c x
  obtain ⟨s',x',rfl⟩:∃ s' x',args'=[s',x']:=by
   match args',hargs with
   | [y,z],_=>exact ⟨y,z,rfl⟩
   | [],hh=>have:=hh.1;simp at this
   | [_],hh=>have:=hh.1;simp at this
   | _::_::_::_,hh=>have:=hh.1;simp at this
  have hs:=hargs.tail.1
  have hx:=hargs.tail.2.tail.1
  split at hi
  ·rename_i e cells esz ht hg
   obtain ⟨t,ht0,ht1⟩:=Option.bind_eq_some_iff.1 ht
   split at hi
   ·rename_i size hsz
    split at hi
    ·rename_i a2 n2 c2 new hnew
     split at hi
     ·rename_i hc
      obtain ⟨hl,rfl,hs0,hle⟩:=hc
      cases hi
      obtain ⟨a2',c2',cs',rfl,hrl,hlen,hok,hfc⟩:=Zcr (P:=P) r hx hnew
      have hk:new.length / esz=n2:=by rw [hlen];exact Nat.mul_div_cancel _ hs0
      rw [hk] at lift ⊢
      have hcells:(Builtin.firstCells esz (min n2 n) (.slice a2' n2 c2')).run P w= .ok (cs'.take (min n2 n*esz)).toArray w:=by
       have hfull:=hfc w.drawn
       cases a2' with
       | none =>
         have:cs'=[]:=by
          have h0:(#[]:Array Value)=cs'.toArray:=by
           have:=hfull
           simp only [Builtin.firstCells,Sem.run_pure] at this
           injection this
          have:=congrArg Array.toList h0
          simpa using this.symm
         subst this
         simp [Builtin.firstCells]
       | some a =>
         simp only [Builtin.firstCells] at hfull ⊢
         exact Zdn hfull (by rw [← hrl.1,hlen]) (Nat.mul_le_mul_right _ (Nat.min_le_left _ _))
      have hvs:RL φ (new.take (min n2 n*esz)) (cs'.take (min n2 n*esz)):=hrl.take _
      have hvl:(new.take (min n2 n*esz)).length=min n2 n*esz:=by
       rw [List.length_take,hlen]
       exact Nat.min_eq_left (Nat.mul_le_mul_right _ (Nat.min_le_left _ _))
      have hvo:(new.take (min n2 n*esz)).all Zal=true:=List.all_eq_true.2 fun x hx=>List.all_eq_true.1 hok x (List.mem_of_mem_take hx)
      have hle':o+(new.take (min n2 n*esz)).length≤cells.length:=by
       rw [hvl]
       have:=Nat.mul_le_mul_right esz (Nat.min_le_right n2 n)
       omega
      have fin:∀ (l:Loc) (ca:Nat),φ b0=some l→s'= .slice (some ⟨l.blk,l.off+o,none⟩) n ca →
        ZaK P low φ h w (Builtin.copy_ ts ty #[s',.slice a2' n2 c2']) (.int .i64 ↑(min n2 n)) (h.set b0 (.cells (splice cells o (new.take (min n2 n*esz))) esz)):=by
       intro l ca hb hs'
       subst hs'
       obtain ⟨w',hst,hgo⟩:=Goes.write (P:=P) r hb hl hg hle' hvo hvs
       refine ⟨φ,w',.int .i64 ↑(min n2 n),?_,hgo,.int _ _⟩
       simp only [Builtin.copy_,ht0,List.getElem?_toArray,List.getElem?_cons_zero,List.getElem?_cons_succ,Sem.run_bind,Zab ht1,Result.andThen_ok,Builtin.lenOf,Sem.run_pure,Zbg hsz]
       have e0:Nat.min n2 n=min n2 n:=rfl
       rw [e0,hcells]
       simp only [Result.andThen_ok,Sem.run_bind,hst,Sem.run_pure,goInt]
      have fin0:∀ a',n=0→s'= .slice (some a') 0 0→ZaK P low φ h w (Builtin.copy_ ts ty #[s',.slice a2' n2 c2']) (.int .i64 ↑(min n2 n)) (h.set b0 (.cells (splice cells o (new.take (min n2 n*esz))) esz)):=by
       intro a' hn hs'
       subst hs'
       subst hn
       have hz:min n2 0=0:=Nat.min_zero _
       rw [hz] at hcells ⊢
       simp only [Nat.zero_mul,List.take_zero] at hcells ⊢
       have hsp:splice cells o []=cells:=by simp [splice]
       rw [hsp]
       have hgo:Goes low φ h w φ (h.set b0 (.cells cells esz)) w:=by
        refine ⟨fun _ _ h=>h,fun _ _=>rfl,⟨fun c l hc=>r.low c l hc,fun c l hc=> ?_,fun c d l m hc hd lc ld hf e=> ?_⟩,by simp,fun c l hc hl=>by have:=(r.low c l hl).1;omega,rfl,rfl,rfl,Nat.le_refl _,fun _ _ _=>rfl⟩
        ·obtain ⟨ob,h1,h2⟩:=r.blk c l hc
         refine ⟨ob,h1,?_⟩
         rw [Heap.Zae]
         by_cases e:c=b0
         ·subst e;simpa [hg] using h2
         ·simpa [e] using h2
        ·rw [Heap.Zae] at lc ld
         rw [Heap.Zae,Heap.Zae] at hf
         refine r.inj c d l m hc hd ?_ ?_ ?_ e
         ·by_cases e':c=b0
          ·subst e';rw [hg];simp
          ·simpa [e'] using lc
         ·by_cases e':d=b0
          ·subst e';rw [hg];simp
          ·simpa [e'] using ld
         ·by_cases e1:c=b0
          ·subst e1;left;rw [hg];rfl
          ·by_cases e2:d=b0
           ·subst e2;right;rw [hg];rfl
           ·simpa [e1,e2] using hf
       refine ⟨φ,w,.int .i64 0,?_,hgo,.int _ _⟩
       simp only [Builtin.copy_,ht0,List.getElem?_toArray,List.getElem?_cons_zero,List.getElem?_cons_succ,Sem.run_bind,Zab ht1,Result.andThen_ok,Builtin.lenOf,Sem.run_pure,Zbg hsz]
       have e0:Nat.min n2 0=0:=Nat.min_zero _
       rw [e0,hcells]
       simp only [Result.andThen_ok,Sem.run_bind,storeCells,Sem.run_pure,goInt]
       rfl
      refine lift (s:=Builtin.copy_ ts ty #[s',.slice a2' n2 c2']) ?_ rfl
      cases hs with
      | known _ _ _ _ l hb=>exact fin l c hb rfl
      | unknown _ _ _ c' l hb=>exact fin l c' hb rfl
      | spent _ _ l a' hb=>exact fin0 a' rfl rfl
      | void _ _ a'=>exact fin0 a' rfl rfl
     ·cases hi
    ·cases hi
   ·cases hi
  ·cases hi
 ·
  rename_i a n c
  obtain ⟨s',rfl⟩:∃ s',args'=[s']:=by
   match args',hargs with
   | [y],_=>exact ⟨y,rfl⟩
   | [],hh=>have:=hh.1;simp at this
   | _::_::_,hh=>have:=hh.1;simp at this
  have hs:=hargs.tail.1
  split at hi
  ·rename_i e ht
   obtain ⟨t,ht0,ht1⟩:=Option.bind_eq_some_iff.1 ht
   split at hi
   ·rename_i hc
    cases hi
    have:∃ a' ,s'= .slice a' n c:=by
     cases hs with
     | nilSlice=>exact ⟨_,rfl⟩
     | known=>exact ⟨_,rfl⟩
     | unknown=>exact absurd hc (Nat.lt_irrefl _)
     | spent=>exact absurd hc (Nat.lt_irrefl _)
     | void=>exact ⟨_,rfl⟩
    obtain ⟨a',rfl⟩:=this
    refine lift (s:=Builtin.cap_ ts ty #[.slice a' n c]) (ZaK.of r (v':= .int .i64 c) ?_ (.int _ _)) rfl
    simp [Builtin.cap_,ht0,Zab ht1,goInt]
   ·cases hi
  ·cases hi
 ·
  rename_i b0 o n c
  obtain ⟨s',rfl⟩:∃ s',args'=[s']:=by
   match args',hargs with
   | [y],_=>exact ⟨y,rfl⟩
   | [],hh=>have:=hh.1;simp at this
   | _::_::_,hh=>have:=hh.1;simp at this
  have hs:=hargs.tail.1
  split at hi
  case h_2=>cases hi
  rename_i e cells esz ht hg
  obtain ⟨t,ht0,ht1⟩:=Option.bind_eq_some_iff.1 ht
  split at hi
  case h_2=>cases hi
  rename_i size z hsz hz
  split at hi
  case isFalse=>cases hi
  rename_i hc
  obtain ⟨hl,rfl,hn0,hs0,hzs,hza,hle⟩:=hc
  cases hi
  have hfl:((List.replicate n z.cells.toList).flatten).length=n*esz:=by rw [Zay];simp [hzs]
  have fin:∀ (l:Loc) (ca:Nat),φ b0=some l→s'= .slice (some ⟨l.blk,l.off+o,none⟩) n ca →
    ZaK P low φ h w (Builtin.clear_ ts ty #[s']) (.tuple #[]) (h.set b0 (.cells (splice cells o (List.replicate n z.cells.toList).flatten) esz)):=by
   intro l ca hb hs'
   subst hs'
   obtain ⟨w',hst,hgo⟩:=Goes.write (P:=P) r hb hl hg (by rw [hfl];exact hle) (ZbF (all_replicate hza n)) (RL.atomic φ (all_replicate hza n))
   refine ⟨φ,w',.tuple #[],?_,hgo,.tuple _ _ rfl (RL.nil φ).2⟩
   obtain ⟨m,rfl⟩:∃ m,n=m+1:=⟨n - 1,by omega⟩
   have hzc:(Builtin.zeroCells z.cells (m+1)).toList=(List.replicate (m+1) z.cells.toList).flatten:=by
    rw [ZeZ _ Ya]
   simp only [Builtin.clear_,ht0,Zab ht1,Sem.run_bind,Result.andThen_ok,Zb7 hz,hzc,hst,Sem.run_pure,List.getElem?_toArray,List.getElem?_cons_zero]
  cases hs with
  | known _ _ _ _ l h1=>exact lift (fin l _ h1 rfl) rfl
  | unknown _ _ _ _ l h1=>exact lift (fin l _ h1 rfl) rfl
  | spent=>omega
  | void=>omega
 ·
  rename_i m k
  obtain ⟨m',k',rfl⟩:∃ s' x',args'=[s',x']:=by
   match args',hargs with
   | [y,z],_=>exact ⟨y,z,rfl⟩
   | [],hh=>have:=hh.1;simp at this
   | [_],hh=>have:=hh.1;simp at this
   | _::_::_::_,hh=>have:=hh.1;simp at this
  split at hi
  ·rename_i t ht
   split at hi
   ·rename_i g hd
    cases hi
    obtain ⟨w',g1,g2⟩:=Zjx (P:=P) r hargs.tail.1 hargs.tail.2.tail.1 hd ts ht ty
    exact lift (s:=Builtin.delete_ ts ty #[m',k']) ⟨φ,w',.tuple #[],g1,g2,.tuple _ _ rfl (RL.nil φ).2⟩ rfl
   ·cases hi
  ·cases hi
 ·cases hi
end
end Go.Im
