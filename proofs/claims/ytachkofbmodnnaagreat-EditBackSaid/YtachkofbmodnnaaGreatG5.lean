/- Proved here: parts of the way to BEditBack (S3 X0 X1 BHdlaw28); no condition beyond those that each theorem names. -/
import Derived.Test.YtachkofbmodnnaaGreatG4
import Derived.BigCall
import Derived.Test.YtachkofbmodnnaaGreatG3
import Derived.Test.YtachkofbmodnnaaGreatProg
import Derived.KernelRfl
set_option linter.unusedSimpArgs false
set_option linter.unusedVariables false
namespace Go.Proofs.YtachkofbmodnnaaGreat.S3
open Go Go.RowKit Go.Proofs
def txt (nm re le ri:List UInt8) (ls:List (List UInt8)):List UInt8 :=
 (if re=[] then [] else re++[226,134,144])++((if le=[] then [] else le++[32])++(nm++((if ri=[] then [] else 32::ri)++ls.flatMap fun x=>59::x)))
theorem extra:Go.Proofs.Builder.Extra Tryz.prog Tryz.Zf1 where
 sizeBuilder:=by kernel_rfl
 liesBuilder:=by kernel_rfl
 t5:=Tryz.underlying5
 a5:=Tryz.isAgg5
 z5:=Tryz.sizeOf5
 v5:=Tryz.zeroValue5
 infoByte:=by kernel_rfl
 cellsByte:=by kernel_rfl
 sizeByte:=by kernel_rfl
 neB5:=by decide
theorem tx (nm re le ri:ByteArray) (ls:List (List UInt8)):txt nm.data.toList re.data.toList le.data.toList ri.data.toList ls =
  (if (!re.toList.isEmpty)=true then (re++⟨#[226,134,144]⟩).data.toList else [])++((if (!le.toList.isEmpty)=true then (le++⟨#[32]⟩).data.toList else [])++(nm.data.toList++((if (!ri.toList.isEmpty)=true then ((⟨#[32]⟩:ByteArray)++ri).data.toList else [])++ls.flatMap fun x=>59::x))):=by
 simp only [txt,ByteArray.toList_eq,ByteArray.data_append,Array.toList_append]
 cases re.data.toList<;>cases le.data.toList<;>cases ri.data.toList<;>simp
structure St (w:World) (nm re le ri:ByteArray) (sv:Value) (acc:List UInt8) (k:Nat) (W:World):Prop where
 isB:Lib.IsBuilder 113 5 (w.heap.size+1) (w.heap.size+1) (Lib.byteCells acc) W
 below:Below w.heap.size w W
 c0:W.cell? ⟨w.heap.size,0,none⟩=some (.string nm)
 c1:W.cell? ⟨w.heap.size,1,none⟩=some (.string re)
 c2:W.cell? ⟨w.heap.size,2,none⟩=some (.string le)
 c3:W.cell? ⟨w.heap.size,3,none⟩=some (.string ri)
 c4:W.cell? ⟨w.heap.size,4,none⟩=some sv
 size:w.heap.size+1≤W.heap.size
 len:acc.length≤k*1000003
 few:k≤2000000
theorem St.write {w W:World} {nm re le ri:ByteArray} {sv:Value} {acc:List UInt8} {k:Nat} (S:St w nm re le ri sv acc k W) (s:ByteArray) (hs:s.size≤1000003) (hk:k+1≤2000000) :
  Calls Tryz.prog 62 #[.pointer (some ⟨w.heap.size+1,0,none⟩),.string s] W fun e w'=>e= .returned (.tuple #[.int .i64 s.size,.nilIface])∧St w nm re le ri sv (acc++s.data.toList) (k+1) w':=by
 have hlt:w.heap.size < W.heap.size:=S.size
 have hl:=S.len
 refine (S2.write _ _ _ s W S.isB (by simp only [Lib.byteCells,List.length_map];omega) S.size).mono fun e w' ⟨he,h1,b1⟩=>⟨he,?_⟩
 have kc:∀ j,w'.cell? ⟨w.heap.size,j,none⟩=W.cell? ⟨w.heap.size,j,none⟩:=fun j=>b1.cell (p:=⟨w.heap.size,j,none⟩) (Nat.lt_succ_self _)
 exact {
  isB:=by rw [Lib.strCells_eq,← Lib.byteCells_append] at h1;exact .inr h1
  below:=S.below.trans (b1.mono (Nat.le_succ _))
  c0:=(kc 0).trans S.c0
  c1:=(kc 1).trans S.c1
  c2:=(kc 2).trans S.c2
  c3:=(kc 3).trans S.c3
  c4:=(kc 4).trans S.c4
  size:=by have:=b1.size;have:=S.size;omega
  len:=by
   have:s.data.toList.length=s.size:=by simp
   simp only [List.length_append,this]
   omega
  few:=hk }
theorem Zer {w:World} {o1:Array Value} {t:TypeId} {o2:Obj} (j:Nat):((w.alloc (.cells o1 t)).alloc o2).cell? ⟨w.heap.size,j,none⟩=o1[j]? :=by
 have h:((w.alloc (.cells o1 t)).alloc o2).heap[w.heap.size]? =some (.cells o1 t (0,0)):=by
  have e:((w.alloc (.cells o1 t)).alloc o2).heap=(w.heap.push (.cells o1 t (0,0))).push o2:=rfl
  rw [e,Array.getElem?_push,if_neg (by rw [Array.size_push];omega),Array.getElem?_push,if_pos rfl]
 exact Lib.cell_of_heap h j
theorem szR {s t:ByteArray} (h:s.size≤1000000) (k:t.size≤3):(s++t).size≤1000003:=by rw [ByteArray.size_append];omega
theorem szL {s t:ByteArray} (k:t.size≤3) (h:s.size≤1000000):(t++s).size≤1000003:=by rw [ByteArray.size_append];omega
set_option maxHeartbeats 4000000 in
set_option maxRecDepth 1000000 in
theorem walk (nm re le ri:ByteArray) (ls:List ByteArray) (w:World) (a:Option Addr) (c:Nat)
  (hc:∀ i,i < ls.length→∃ b o,a=some ⟨b,o,none⟩∧b < w.heap.size∧w.cell? ⟨b,o+i,none⟩=ls[i]?.map Value.string) (hn:ls.length≤1000000) (hsz:nm.size≤1000000) (hre:re.size≤1000000) (hle:le.size≤1000000) (hri:ri.size≤1000000) (hls:∀ x ∈ ls,x.size≤1000000) :
  Calls Tryz.prog 37 #[.agg #[.string nm,.string re,.string le,.string ri,.slice a ls.length c]] w fun e w'=>e= .returned (.string ⟨(txt nm.data.toList re.data.toList le.data.toList ri.data.toList (ls.map (·.data.toList))).toArray⟩)∧Below w.heap.size w w':=by
 have S0:St w nm re le ri (.slice a ls.length c) [] 0 ((w.alloc (.cells #[.string nm,.string re,.string le,.string ri,.slice a ls.length c] 51)).alloc (.cells #[.pointer none,.slice none 0 0] 113)):={
  isB:=by
   have:=Lib.fresh_isBuilder 113 5 (w.alloc (.cells #[.string nm,.string re,.string le,.string ri,.slice a ls.length c] 51))
   simpa [Lib.byteCells] using this
  below:=((Below.refl _ w).alloc (Nat.le_refl _) _).alloc Yp _
  c0:=(Zer _).trans rfl
  c1:=(Zer _).trans rfl
  c2:=(Zer _).trans rfl
  c3:=(Zer _).trans rfl
  c4:=(Zer _).trans rfl
  size:=by simp
  len:=by simp
  few:=by omega }
 have Hn:Hid (ls.length≤1000000∧(∀ x ∈ ls,x.size≤1000000)):=⟨hn,hls⟩
 have Hc:Hid (∀ i,i < ls.length→∃ b o,a=some ⟨b,o,none⟩∧b < w.heap.size∧w.cell? ⟨b,o+i,none⟩=ls[i]?.map Value.string):=hc
 clear hc hls
 go_enter Tryz.func37,Tryz.ntmps37
 go_wp2_with fail
 iterate 4
  all_goals try
   refine (St.write Y2 _ (by first | exact szR Y2 YI | exact szL YI Y2 | omega) Ya).mono ?_
   rintro e W1 ⟨rfl,S1⟩
   obtain ⟨_,_,d0,d1,d2,d3,d4,_,_,_⟩:=id S1
   go_wp2_with fail
 any_goals
  try rw [‹(!re.toList.isEmpty)=_›]
  try rw [‹(!le.toList.isEmpty)=_›]
  try rw [‹(!ri.toList.isEmpty)=_›]
  go_loopw [33] (fun i wr=>∃ (k kk:Nat) (acc:List UInt8),k≤ls.length∧i= .int .i64 k∧St w nm re le ri (.slice a ls.length c) acc kk wr∧Hid (kk≤k+4∧acc++((ls.drop k).map (·.data.toList)).flatMap (fun x=>59::x)=txt nm.data.toList re.data.toList le.data.toList ri.data.toList (ls.map (·.data.toList))))
   (fun i _=>ls.length - (intOf i).toNat)
  case atStart =>
   refine ⟨0,_,_,Nat.zero_le _,rfl,Y2,⟨by omega,?_⟩⟩
   rw [tx,‹(!re.toList.isEmpty)=_›,‹(!le.toList.isEmpty)=_›,‹(!ri.toList.isEmpty)=_›]
   simp [List.append_assoc]
  case round =>
   obtain ⟨k,kk,acc,hk,rfl,S,⟨hkk,hacc⟩⟩:=hrel
   obtain ⟨_,_,d0,d1,d2,d3,d4,hz,_,_⟩:=id S
   by_cases hlt:k < ls.length
   ·obtain ⟨b,o,rfl,hb,hcell⟩:=Hc k hlt
    have cl:wr.cell? ⟨b,o+k,none⟩=some (.string ls[k]):=by
     rw [S.below.cell (p:=⟨b,o+k,none⟩) hb,hcell,List.getElem?_eq_getElem hlt]
     rfl
    have hxs:=Hn.2 ls[k] (List.getElem_mem hlt)
    have hn1:=Hn.1
    go_wp2_with fail
    refine (S.write _ (szL YI hxs) Ya).mono ?_
    rintro e W1 ⟨rfl,S1⟩
    go_wp2_with fail
    go_roundw
    case rel =>
     have e1:acc++((⟨#[59]⟩:ByteArray)++ls[k]).data.toList++((ls.drop (k+1)).map (·.data.toList)).flatMap (fun x=>59::x)=txt nm.data.toList re.data.toList le.data.toList ri.data.toList (ls.map (·.data.toList)):=by
      rw [← hacc,List.drop_eq_getElem_cons hlt,List.map_cons,List.flatMap_cons]
      simp only [ByteArray.data_append,Array.toList_append,List.append_assoc,List.cons_append,List.nil_append]
     have R:∃ (k' kk:Nat) (acc:List UInt8),k'≤ls.length∧Value.int .i64 ((k:Int)+1)= .int .i64 k'∧St w nm re le ri (.slice (some ⟨b,o,none⟩) ls.length c) acc kk W1∧Hid (kk≤k'+4∧acc++((ls.drop k').map (·.data.toList)).flatMap (fun x=>59::x)=txt nm.data.toList re.data.toList le.data.toList ri.data.toList (ls.map (·.data.toList))) :=
      ⟨k+1,_,_,by omega,by simp,S1,⟨by omega,e1⟩⟩
     first
      | exact R
      | ((repeat apply Exists.intro);exact ⟨R,rfl⟩)
    case measure =>
     simp [intOf]
     omega
   ·go_wp2_with fail
    refine (Any.Builder_String_any Tryz.Zqn extra _ _ acc _ S.isB S.size).mono ?_
    rintro e W1 ⟨rfl,b1⟩
    go_wp2_with fail
    go_ret
    rw [List.drop_of_length_le Ya,List.map_nil,List.flatMap_nil,List.append_nil] at hacc
    rw [← hacc]
    exact ⟨rfl,S.below.trans (b1.mono (Nat.le_succ _))⟩
end Go.Proofs.YtachkofbmodnnaaGreat.S3
namespace Go.Im
open Go.RowKit Go.Proofs Go.Sort
theorem Goes.same {low:Nat} {φ ψ:Zac} {h h':Heap} {w w1 w2:World} (g:Goes low φ h w ψ h' w1) (hh:w2.heap=w1.heap) (ho:w2.os=w1.os) (ht:w2.tape=w1.tape) (hp:w2.output=w1.output):Goes low φ h w ψ h' w2 where
 ext:=g.ext
 old:=g.old
 rh:=⟨fun b l hb=>by rw [hh];exact g.rh.low b l hb,fun b l hb=>by rw [hh];exact g.rh.blk b l hb,g.rh.inj⟩
 grows:=g.grows
 fresh:=g.fresh
 os:=ho.trans g.os
 tape:=ht.trans g.tape
 output:=hp.trans g.output
 size:=by rw [hh];exact g.size
 kept:=fun i hi hn=>by rw [hh];exact g.kept i hi hn
structure Known (P:Program) (T:Tied) where
 f:FuncId
 fn : ∃ fn, P.funcs[f]? = some fn ∧ fn.body.isNone = false ∧ (fn.name == "runtime.NumGoroutine") = false
 run:Nat→Array Value→Heap→Option (Value × Heap)
 keeps:∀ {low args h v h'},low≤h.size→run low args h=some (v,h')→h.size≤h'.size∧∀ b,b < low→h'.get b=h.get b
 sound:∀ {low args h v h'},low≤h.size→run low args h=some (v,h')→∀ (φ:Zac) (w:World) (args':Array Value),RL φ args.toList args'.toList→RH φ h w→T.holds φ →
  Calls P f args' w fun e w'=>∃ ψ v',e= .returned v'∧RV ψ v v'∧Goes low φ h w ψ h' w'
 lower:∀ {low low' args h r},low'≤low→run low args h=some r→run low' args h=some r
def Zgv {P:Program} {T:Tied} (ys:List (Known P T)) (xs:List (Fact P)) (f:FuncId):Option (Nat→Array Value→Heap→Option (Value × Heap)):=match ys with
 | []=>table xs f
 | y::ys=>if y.f=f then some y.run else Zgv ys xs f
def cfgx (P:Program) {T:Tied} (fs:List Nat) (pm:List (Nat × Nat × List FuncId)) (dy:List (Nat × Nat × List (Nat × Nat))) (xs:List (Fact P)) (ys:List (Known P T)):Cfg:=⟨P,fun f=>fs.contains f,pmAt pm,dyAt dy,Zgv ys xs,T⟩
theorem Zey {P:Program} {T:Tied} {xs:List (Fact P)} {f:FuncId} {g:Nat→Array Value→Heap→Option (Value × Heap)}:∀ {ys:List (Known P T)},Zgv ys xs f=some g→(∃ y ∈ ys,y.f=f∧g=y.run)∨table xs f=some g
 | [],h=> .inr h
 | y::ys,h=>by
   simp only [Zgv] at h
   by_cases hf:y.f=f
   ·rw [if_pos hf] at h
    cases h
    exact .inl ⟨y,by simp,hf,rfl⟩
   ·rw [if_neg hf] at h
    rcases Zey h with ⟨z,hz,h1,h2⟩ | h
    ·exact .inl ⟨z,by simp [hz],h1,h2⟩
    ·exact .inr h
theorem Znr {P:Program} {T:Tied} {fs:List Nat} {pm:List (Nat × Nat × List FuncId)} {dy:List (Nat × Nat × List (Nat × Nat))} {xs:List (Fact P)} {ys:List (Known P T)} (h0:P.follows .mixedOrders=true) (h:fs.all (Zm6 P (pmAt pm) (dyAt dy))=true):CfgOK (cfgx P fs pm dy xs ys):=by
 have base:=ZpF (xs:=xs) h0 h
 have inv:∀ {low f args h v},(cfgx P fs pm dy xs ys).known low f args h=some v→(∃ y ∈ ys,y.f=f∧y.run low args h=some v)∨(cfg P fs pm dy xs).known low f args h=some v:=by
  intro low f args h v hk
  simp only [Cfg.known,cfgx] at hk
  cases ht:Zgv ys xs f with
  | none=>rw [ht] at hk;cases hk
  | some g =>
    rw [ht] at hk
    rcases Zey ht with ⟨y,hy,h1,h2⟩ | h2
    ·subst h2
     exact .inl ⟨y,hy,h1,hk⟩
    ·exact .inr (by simp only [Cfg.known,cfg,h2];exact hk)
 constructor
 ·exact h0
 ·exact base.fn
 ·constructor
  ·intro low f args h v h' hk
   rcases inv hk with ⟨y,_,rfl,_⟩ | hk
   ·exact y.fn
   ·exact base.ext.fn hk
  ·intro low f args h v h' hl hk
   rcases inv hk with ⟨y,_,_,hr⟩ | hk
   ·exact y.keeps hl hr
   ·exact base.ext.keeps hl hk
  ·intro low f args h v h' hl hk φ w args' ha hr ht
   rcases inv hk with ⟨y,_,rfl,hy⟩ | hk
   ·exact y.sound hl hy φ w args' ha hr ht
   ·exact base.ext.sound hl hk φ w args' ha hr True.intro
 ·intro low low' f args h r hl hk
  simp only [Cfg.known,cfgx] at hk ⊢
  cases ht:Zgv ys xs f with
  | none=>rw [ht] at hk;cases hk
  | some g =>
    rw [ht] at hk
    simp only at hk ⊢
    rcases Zey ht with ⟨y,hy,h1,h2⟩ | h2
    ·subst h2
     exact y.lower hl hk
    ·have:=base.lower low low' f args h r hl (by simp only [Cfg.known,cfg,h2];exact hk)
     simp only [Cfg.known,cfg,h2] at this
     exact this
def strsOf:List Value→Option (List (List UInt8))
 | []=>some []
 | .string s::l=>(strsOf l).map (s.data.toList::·)
 | _=>none
theorem ZhT:∀ {l:List Value} {ss:List (List UInt8)},strsOf l=some ss→l=ss.map encStr
 | [],ss,h=>by cases h;rfl
 | v::l,ss,h=>by
   cases v<;>simp only [strsOf,reduceCtorEq] at h
   rename_i s
   obtain ⟨t,ht,rfl⟩:=Option.map_eq_some_iff.1 h
   rw [ZhT ht]
   rfl
theorem Zgw:∀ ss:List (List UInt8),strsOf (ss.map encStr)=some ss
 | []=>rfl
 | s::ss=>by simp only [List.map_cons,encStr,strsOf,Zgw ss,Option.map_some]
structure RowA where
 b:Nat
 o:Nat
 n:Nat
 c:Nat
 cs:List Value
 ss:List (List UInt8)
def ZcS (low:Nat) (args:Array Value) (h:Heap):Option RowA:=match args.toList with
 | [.slice (some ⟨b,o,none⟩) n c]=>if low≤b∧0 < n∧n≤1000000 then match h.get b with
   | .cells cs 1=>match strsOf ((cs.drop o).take n) with
     | some ss=>if o+n≤cs.length then some ⟨b,o,n,c,cs,ss⟩ else none
     | none=>none
   | _=>none else none
 | _=>none
def RowA.blk (r:RowA) (ds:List (List UInt8)):Blk:= .cells (r.cs.take r.o++(ds.map encStr++r.cs.drop (r.o+r.n))) 1
theorem Zc8 {low:Nat} {args:Array Value} {h:Heap} {r:RowA} (hr:ZcS low args h=some r) :
  args.toList=[.slice (some ⟨r.b,r.o,none⟩) r.n r.c]∧low≤r.b∧0 < r.n∧r.n≤1000000∧h.get r.b= .cells r.cs 1∧(r.cs.drop r.o).take r.n=r.ss.map encStr∧r.o+r.n≤r.cs.length∧r.ss.length=r.n:=by
 unfold ZcS at hr
 split at hr
 ·rename_i b o n c ha
  split at hr
  ·rename_i hc
   split at hr
   ·rename_i cs hg
    split at hr
    ·rename_i ss hs
     split at hr
     ·rename_i hl
      cases hr
      have he:=ZhT hs
      refine ⟨ha,hc.1,hc.2.1,hc.2.2,hg,he,hl,?_⟩
      have:=congrArg List.length he
      simp at this
      simp only
      omega
     ·cases hr
    ·cases hr
   ·cases hr
  ·cases hr
 ·cases hr
theorem Ze4 {low low':Nat} {args:Array Value} {h:Heap} {r:RowA} (hl:low'≤low) (hr:ZcS low args h=some r):ZcS low' args h=some r:=by
 unfold ZcS at hr ⊢
 split at hr
 ·rename_i b o n c ha
  split at hr
  ·rename_i hc
   have:low'≤b∧0 < n∧n≤1000000:=⟨by omega,hc.2⟩
   simp only [if_pos this]
   exact hr
  ·cases hr
 ·cases hr
theorem Zh0 {low:Nat} {args args':Array Value} {h:Heap} {r:RowA} (hr:ZcS low args h=some r) {φ:Zac} {w:World} (ha:RL φ args.toList args'.toList) (rh:RH φ h w) :
  ∃ (l:Loc) (c':Nat),args'= #[.slice (some ⟨l.blk,l.off+r.o,none⟩) r.ss.length c']∧r.ss.length≤c'∧l.blk < w.heap.size∧Holds encStr w l.blk (l.off+r.o) r.ss.toArray ∧
    (∀ m,m≤r.n→RV φ (.slice (some ⟨r.b,r.o,none⟩) m r.c) (.slice (some ⟨l.blk,l.off+r.o,none⟩) m c')) ∧
    ∀ (ds:List (List UInt8)) (q:Nat) (os:Array Obj),ds.length=r.n→Goes low φ h w φ (h.set r.b (r.blk ds)) (grow (putRow encStr (Sort.ahead w q) l.blk (l.off+r.o) ds.toArray) os):=by
 obtain ⟨hargs,hlow,hn0,hn1,hg,hcells,hfit,hlen⟩:=Zc8 hr
 obtain ⟨b,o,n,c,cs,ss⟩:=r
 simp only at *
 rw [hargs] at ha
 have hal:args'.toList.length=1:=by rw [← ha.1];rfl
 obtain ⟨v',hv'⟩:∃ v',args'.toList=[v']:=List.length_eq_one_iff.1 hal
 rw [hv'] at ha
 have hv:=ha.tail.1
 have hargs':args'= #[v']:=by rw [← Array.toList_inj,hv']
 obtain ⟨l,c',hφ,hcc,hve,hre⟩:∃ (l:Loc) (c':Nat),φ b=some l∧n≤c'∧v'= .slice (some ⟨l.blk,l.off+o,none⟩) n c'∧∀ m,m≤n→RV φ (.slice (some ⟨b,o,none⟩) m c) (.slice (some ⟨l.blk,l.off+o,none⟩) m c'):=by
  cases hv with
  | known _ _ _ _ l hl hcb hn ho=>exact ⟨l,c,hl,hn,rfl,fun m hm=> .known b o m c l hl hcb Ya ho⟩
  | unknown _ _ _ c' l hl hn ho he hc=>exact ⟨l,c',hl,hn,rfl,fun m hm=> .unknown b o m c' l hl Ya (Nat.le_trans (Nat.add_le_add_left (Nat.mul_le_mul_right _ hm) _) ho) he hc⟩
  | spent=>omega
  | void=>omega
 obtain ⟨cc,e,fr,ho,h1,h2,h3,h4,h5,h6,h7⟩:=Zch rh hφ hg
 have hblk:=(rh.low b l hφ).2
 have at_:∀ j,j < n→∃ s,ss[j]? =some s∧cc[l.off+(o+j)]? =some (encStr s):=by
  intro j hj
  have e1:(((cs.drop o).take n)[j]?)=(ss.map encStr)[j]? :=by rw [hcells]
  rw [List.getElem?_take,if_pos hj,List.getElem?_drop,List.getElem?_map] at e1
  obtain ⟨s,hs⟩:∃ s,ss[j]? =some s:=⟨_,List.getElem?_eq_getElem Ya⟩
  rw [hs] at e1
  obtain ⟨_,u,hu,hru⟩:=h7 _ _ e1
  cases hru
  exact ⟨s,hs,hu⟩
 refine ⟨l,c',by rw [hargs',hve,hlen],by omega,hblk,?_,hre,?_⟩
 ·intro j hj
  have hj':j < n:=by simpa [hlen] using hj
  obtain ⟨s,hs,hc⟩:=at_ j hj'
  constructor
  ·simp only [World.cell?,ho,Option.isSome_none,Bool.false_eq_true,if_false,Nat.add_assoc,hc]
   simp [hs]
  ·simp only [World.frozen?,ho]
   have:=(Array.getElem?_eq_some_iff.1 hc).1
   rcases h6 with rfl | ⟨h6, -⟩
   ·simp
   ·obtain ⟨f1,f2⟩:=fr
    simp only at h6 ⊢
    have:¬ f1≤l.off+o+j:=by omega
    simp [this]
 ·intro ds q os hds
  have hput:RB φ l (.cells (cs.take o++(ds.map encStr++cs.drop (o+n))) 1) (.cells (putCells encStr (l.off+o) ds.toArray cc) e fr):=by
   refine ⟨by simp;omega,by simpa [putCells] using h2,h3,h4,by omega,?_,?_⟩
   ·rcases h6 with h6 | h6
    ·exact .inl h6
    ·exact .inr ⟨by simpa [putCells] using h6.1,h6.2⟩
   ·intro i v hi
    by_cases hio:i < o
    ·rw [List.getElem?_append_left Yl,List.getElem?_take,if_pos hio] at hi
     obtain ⟨k1,u,k2,k3⟩:=h7 i v hi
     refine ⟨k1,u,?_,k3⟩
     simp only [putCells,Array.getElem?_mapIdx,k2,Option.map_some]
     rw [if_neg Ya]
    ·rw [List.getElem?_append_right Yl] at hi
     have hto:(cs.take o).length=o:=Yl
     rw [hto] at hi
     by_cases hin:i < o+n
     ·rw [List.getElem?_append_left Yl,List.getElem?_map] at hi
      obtain ⟨s,hs,rfl⟩:=Option.map_eq_some_iff.1 hi
      refine ⟨rfl,_,?_,.string _⟩
      have hlt:l.off+i < cc.size:=Ya
      simp only [putCells,Array.getElem?_mapIdx,Array.getElem?_eq_getElem hlt,Option.map_some]
      rw [if_pos Yl]
      have:l.off+i - (l.off+o)=i - o:=by omega
      rw [this]
      simp [hs]
     ·rw [List.getElem?_append_right Yl,List.length_map,List.getElem?_drop] at hi
      have hix:o+n+(i - o - ds.length)=i:=Ya
      rw [hix] at hi
      obtain ⟨k1,u,k2,k3⟩:=h7 i v hi
      refine ⟨k1,u,?_,k3⟩
      simp only [putCells,Array.getElem?_mapIdx,k2,Option.map_some]
      rw [if_neg Yl]
  have g1:=Goes.update rh hφ hlow YQ YU hput
  have heap:(putRow encStr (Sort.ahead w q) l.blk (l.off+o) ds.toArray).heap=(World.putObj w l.blk (.cells (putCells encStr (l.off+o) ds.toArray cc) e fr)).heap:=by
   apply Array.ext_getElem?
   intro k
   rw [Za5 _ _ _ _ hblk]
   simp only [putRow,mapBlock,Sort.ahead,Array.getElem?_modify]
   by_cases hk:k=l.blk
   ·subst hk
    simp [ho,onCells]
   ·have:¬ l.blk=k:=fun e=>hk e.symm
    simp [hk,this]
  have g2:Goes low φ h w φ _ (putRow encStr (Sort.ahead w q) l.blk (l.off+o) ds.toArray):=g1.same heap rfl rfl rfl
  refine g2.trans (Below.goes g2.rh ⟨rfl,rfl,rfl,by simp [grow],fun i hi=> ?_⟩)
  simp only [grow]
  exact Array.getElem?_append_left hi
end Go.Im
namespace Go.Im
open Go.RowKit Go.Proofs Go.Sort
def sorted (ss:List (List UInt8)):List (List UInt8):=ss.mergeSort fun x y=>decide (x≤y)
def Zdw (low:Nat) (args:Array Value) (h:Heap):Option (Value × Heap):=match ZcS low args h with
 | some r=>some (.tuple #[],h.set r.b (r.blk (sorted r.ss)))
 | none=>none
def Zeq (ss:List (List UInt8)):List (List UInt8):=Lib.compact ss++List.replicate (ss.length - (Lib.compact ss).length) []
def ZdN (low:Nat) (args:Array Value) (h:Heap):Option (Value × Heap):=match ZcS low args h with
 | some r=>if (Lib.compact r.ss).length≤r.ss.length then some (.slice (some ⟨r.b,r.o,none⟩) (Lib.compact r.ss).length r.c,h.set r.b (r.blk (Zeq r.ss))) else none
 | none=>none
theorem ZiT {low:Nat} {args:Array Value} {h:Heap} {r:RowA} (hr:ZcS low args h=some r) (x:Blk):h.size≤(h.set r.b x).size∧∀ b,b < low→(h.set r.b x).get b=h.get b:=by
 obtain ⟨_,hlow,_⟩:=Zc8 hr
 refine ⟨Nat.le_refl _,fun b hb=> ?_⟩
 rw [Heap.Zae,if_neg Ya]
def bytesOf:List Value→Option (List ByteArray)
 | []=>some []
 | .string s::l=>(bytesOf l).map (s::·)
 | _=>none
theorem Zgg:∀ {l:List Value} {ls:List ByteArray},bytesOf l=some ls→l=ls.map Value.string
 | [],ls,h=>by cases h;rfl
 | v::l,ls,h=>by
   cases v<;>simp only [bytesOf,reduceCtorEq] at h
   obtain ⟨t,ht,rfl⟩:=Option.map_eq_some_iff.1 h
   rw [Zgg ht]
   rfl
theorem bytesOf_map:∀ ls:List ByteArray,bytesOf (ls.map Value.string)=some ls
 | []=>rfl
 | s::ls=>by simp only [List.map_cons,bytesOf,bytesOf_map ls,Option.map_some]
def ZfF (h:Heap):Value→Option (List ByteArray)
 | .slice _ 0 _=>some []
 | .slice (some ⟨b,o,none⟩) n _=>match h.look b with
   | .cells cs 1=>if o+n≤cs.length∧n≤1000000 then bytesOf ((cs.drop o).take n) else none
   | _=>none
 | _=>none
theorem Zg4 {h:Heap} {v v':Value} {ls:List ByteArray} (ht:ZfF h v=some ls) {φ:Zac} {w:World} (hv:RV φ v v') (rh:RH φ h w) :
  ∃ a c,v'= .slice a ls.length c∧ls.length≤1000000∧∀ i,i < ls.length→∃ b o,a=some ⟨b,o,none⟩∧b < w.heap.size∧w.cell? ⟨b,o+i,none⟩=ls[i]?.map Value.string:=by
 unfold ZfF at ht
 split at ht
 ·cases ht
  cases hv with
  | nilSlice=>exact ⟨none,0,rfl,by simp,fun i hi=>absurd hi Yp⟩
  | known=>exact ⟨_,_,rfl,by simp,fun i hi=>absurd hi Yp⟩
  | unknown=>exact ⟨_,_,rfl,by simp,fun i hi=>absurd hi Yp⟩
  | spent=>exact ⟨_,_,rfl,by simp,fun i hi=>absurd hi Yp⟩
  | void=>exact ⟨_,_,rfl,by simp,fun i hi=>absurd hi Yp⟩
 ·rename_i b o n c hn0
  split at ht
  ·rename_i cs hg
   split at ht
   ·rename_i hfit
    have hl:=Zgg ht
    have hlen:ls.length=n:=by
     have:=congrArg List.length hl
     simp at this
     omega
    obtain ⟨l,c',hφ,hve⟩:∃ (l:Loc) (c':Nat),φ b=some l∧v'= .slice (some ⟨l.blk,l.off+o,none⟩) n c':=by
     cases hv with
     | known _ _ _ _ l hl hcb hn ho=>exact ⟨l,c,hl,rfl⟩
     | unknown _ _ _ c' l hl hn ho he hc=>exact ⟨l,c',hl,rfl⟩
     | spent=>exact (hn0 rfl).elim
     | void=>exact (hn0 rfl).elim
    refine ⟨_,c',by rw [hve,hlen],by omega,fun i hi=>⟨l.blk,l.off+o,rfl,(rh.low b l hφ).2,?_⟩⟩
    have e1:((cs.drop o).take n)[i]? =(ls.map Value.string)[i]? :=by rw [hl]
    rw [List.getElem?_take,if_pos Ya,List.getElem?_drop,List.getElem?_map,List.getElem?_eq_getElem hi] at e1
    obtain ⟨u,hu,hru⟩:=Zke rh hφ hg e1
    cases hru
    rw [← Nat.add_assoc] at hu
    rw [hu,List.getElem?_eq_getElem hi]
    rfl
   ·cases ht
  ·cases ht
 ·cases ht
def small (s:ByteArray):Bool:=decide (s.size≤1000000)
def ZfH (low:Nat) (args:Array Value) (h:Heap):Option (Value × Heap):=match args.toList with
 | [.agg xs]=>match xs.toList with
   | [.string nm,.string re,.string le,.string ri,sv]=>match ZfF h sv with
     | some ls=>if small nm && (small re && (small le && (small ri && ls.all small))) then some (.string ⟨(Go.Proofs.YtachkofbmodnnaaGreat.S3.txt nm.data.toList re.data.toList le.data.toList ri.data.toList (ls.map (·.data.toList))).toArray⟩,h) else none
     | none=>none
   | _=>none
 | _=>none
end Go.Im
namespace Go.Proofs.YtachkofbmodnnaaGreat.X1
open Go Go.Im Go.RowKit Go.Proofs Go.Sort
noncomputable def ZuE {T:Tied}:Known Tryz.prog T where
 f:=59
 fn:=⟨_,Tryz.func59,rfl,by decide⟩
 run:=Zdw
 keeps:=fun {low args h v h'} _ hr=>by
  simp only [Zdw] at hr
  split at hr
  ·rename_i r hq
   cases hr
   exact ZiT hq _
  ·cases hr
 sound:=fun {low args h v h'} hl hr φ w args' ha rh _=>by
  simp only [Zdw] at hr
  split at hr
  ·rename_i r hq
   cases hr
   obtain ⟨l,c',rfl,hc',hb,hH,hre,hg⟩:=Zh0 hq ha rh
   obtain ⟨_,_,hn0,hn1,_,_,_,hlen⟩:=Zc8 hq
   refine (Tryz.slices_Sort_string l.blk (l.off+r.o) c' r.ss w hH hb Ya).mono ?_
   rintro e w' ⟨rfl,n,os,rfl⟩
   exact ⟨φ,_,rfl,RV.undef φ,hg (sorted r.ss) n os (by simp [sorted,hlen])⟩
  ·cases hr
 lower:=fun {low low' args h r} hl hr=>by
  simp only [Zdw] at hr ⊢
  split at hr
  ·rename_i x hq
   rw [Ze4 hl hq]
   exact hr
  ·cases hr
noncomputable def ZvE {T:Tied}:Known Tryz.prog T where
 f:=60
 fn:=⟨_,Tryz.func60,rfl,by decide⟩
 run:=ZdN
 keeps:=fun {low args h v h'} _ hr=>by
  simp only [ZdN] at hr
  split at hr
  ·rename_i r hq
   split at hr
   ·cases hr
    exact ZiT hq _
   ·cases hr
  ·cases hr
 sound:=fun {low args h v h'} hl hr φ w args' ha rh _=>by
  simp only [ZdN] at hr
  split at hr
  ·rename_i r hq
   split at hr
   ·rename_i hle
    cases hr
    obtain ⟨l,c',rfl,hc',hb,hH,hre,hg⟩:=Zh0 hq ha rh
    obtain ⟨_,_,hn0,hn1,_,_,_,hlen⟩:=Zc8 hq
    refine (Tryz.slices_Compact_string l.blk (l.off+r.o) c' r.ss w hH Ya hc').mono ?_
    rintro e w' ⟨rfl,q,rfl⟩
    refine ⟨φ,_,rfl,hre _ Ya,?_⟩
    have:=hg (Zeq r.ss) q #[] (by simp only [Zeq,List.length_append,List.length_replicate];omega)
    rw [grow_empty] at this
    exact this
   ·cases hr
  ·cases hr
 lower:=fun {low low' args h r} hl hr=>by
  simp only [ZdN] at hr ⊢
  split at hr
  ·rename_i x hq
   rw [Ze4 hl hq]
   exact hr
  ·cases hr
noncomputable def Zr5 {T:Tied}:Known Tryz.prog T where
 f:=37
 fn:=⟨_,Tryz.func37,rfl,by decide⟩
 run:=ZfH
 keeps:=fun {low args h v h'} _ hr=>by
  have:h'=h:=by
   simp only [ZfH] at hr
   split at hr
   ·split at hr
    ·split at hr
     ·split at hr
      ·cases hr
       rfl
      ·cases hr
     ·cases hr
    ·cases hr
   ·cases hr
  subst this
  exact ⟨Nat.le_refl _,fun _ _=>rfl⟩
 sound:=fun {low args h v h'} hl hr φ w args' ha rh _=>by
  simp only [ZfH] at hr
  split at hr
  ·rename_i xs hargs
   split at hr
   ·rename_i nm re le ri sv hxs
    split at hr
    ·rename_i ls hls
     split at hr
     ·rename_i hs
      cases hr
      simp only [Bool.and_eq_true,small,decide_eq_true_eq,List.all_eq_true] at hs
      obtain ⟨s1,s2,s3,s4,s5⟩:=hs
      rw [hargs] at ha
      have hal:args'.toList.length=1:=by rw [← ha.1];rfl
      obtain ⟨v',hv'⟩:∃ v',args'.toList=[v']:=List.length_eq_one_iff.1 hal
      rw [hv'] at ha
      have hv:=ha.tail.1
      have hargs':args'= #[v']:=by rw [← Array.toList_inj,hv']
      cases hv with
      | agg _ ys hsz hel =>
        have hR:RL φ xs.toList ys.toList:=⟨hsz,hel⟩
        rw [hxs] at hR
        have hyl:ys.toList.length=5:=by rw [← hR.1];rfl
        obtain ⟨y0,y1,y2,y3,y4,hys⟩:∃ y0 y1 y2 y3 y4,ys.toList=[y0,y1,y2,y3,y4]:=by
         match hy:ys.toList,hyl with
         | [a,b,c,d,e],_=>exact ⟨a,b,c,d,e,rfl⟩
        rw [hys] at hR
        obtain ⟨r0,hR⟩:=hR.tail
        obtain ⟨r1,hR⟩:=hR.tail
        obtain ⟨r2,hR⟩:=hR.tail
        obtain ⟨r3,hR⟩:=hR.tail
        obtain ⟨r4,_⟩:=hR.tail
        cases r0
        cases r1
        cases r2
        cases r3
        obtain ⟨a,c,rfl,hn,hc⟩:=Zg4 hls r4 rh
        have hys':ys= #[.string nm,.string re,.string le,.string ri,.slice a ls.length c]:=by rw [← Array.toList_inj,hys]
        rw [hargs',hys']
        refine (S3.walk nm re le ri ls w a c hc hn s1 s2 s3 s4 s5).mono ?_
        rintro e w' ⟨rfl,hb⟩
        exact ⟨φ,_,rfl,.string _,Below.goes rh hb⟩
     ·cases hr
    ·cases hr
   ·cases hr
  ·cases hr
 lower:=fun _ hr=>hr
end Go.Proofs.YtachkofbmodnnaaGreat.X1
namespace Go.Proofs.YtachkofbmodnnaaGreat.Hd
open Go Go.Im Go.Proofs Go.RowKit
set_option maxRecDepth 100000
namespace law28
noncomputable def K0:Cfg:=cfgx Tryz.prog (T:=Tied.free) [8,9,11,13,17,21,23,28,29,31,33,36,46,47,48,51,52,57,58,59,60,61,71,72,73,74,75,79,81,82,86,87,88,89,90,91,92,93,94,95,96,97,98,99,100,101,102,103,104,105,106,114,115,116,117,118,119,120,121,122,123,124,125,126,127,128,129,134,135,136,137,138,139,140,141,142,143,144,145,151,152,153,154,155,156,157,162,163,164,165,166,167,172,173,174,175,176,177,178,182,183,184,185,190,191,192,193,194,195] [(21,(11,[48])),(36,(22,[])),(74,(6,[])),(137,(14,[151,153])),(139,(1,[])),(140,(1,[])),(155,(4,[165])),(156,(1,[165])),(165,(3,[174])),(165,(6,[])),(166,(4,[140])),(176,(7,[]))] [(36,(6,[(5,7)])),(36,(13,[(5,7)])),(36,(15,[(5,10),(8,10),(8,12)])),(174,(9,[(1,2)])),(176,(4,[(1,2)])),(176,(9,[(1,2)])),(184,(7,[(9,12)]))] [] [X1.Zr5]
theorem run:isT (Zbk K0 1000 0 8 #[] h0)=true:=by decide +kernel
theorem ok:CfgOK K0:=Znr Ye Ye
noncomputable def awake:Fact Tryz.prog where
 f:=8
 fn:=⟨_,Tryz.func8,rfl,by decide +kernel⟩
 run:=fun args=>if args.size=0 then some (.bool true) else none
 ok:=by
  intro args v h
  split at h
  ·rename_i hs
   cases h
   have:args= #[]:=Array.size_eq_zero_iff.1 hs
   subst this
   exact ⟨rfl,rfl,fun w=>Zlo ok run rfl w⟩
  ·cases h
end law28
end Go.Proofs.YtachkofbmodnnaaGreat.Hd
