/- Proved here: parts of the way to BEditBack (BE7 BD5 BD16); no condition beyond those that each theorem names. -/
import Derived.Test.YtachkofbmodnnaaGreatG20
import Derived.Test.YtachkofbmodnnaaGreatG21
set_option linter.unusedSimpArgs false
set_option linter.unusedVariables false
namespace Go.Im
open Go.Im.Editing
theorem ZoZ {low:Nat} {h w:Heap} (hlow:low≤h.size) (x:Ext h w) {b o n c k size bytes:Nat} {cs new:List Value} (hb:h.size≤b) (hbw:b < w.size) (hg:w.get b= .cells cs size) (ho:o+n*size=cs.length) (hcap:(c=n∧c < big)∨c=big)
  (hs:0 < size) (hk:0 < k) (hn:new.length=k*size) (hbt:2*(n+k)*bytes≤140737488355328) (hc:n+k≤4611686018427387904) :
  ∃ w',iapp low w size bytes (.slice (some ⟨b,o,none⟩) n c) k (some new)=some (.slice (some ⟨w.size,0,none⟩) (n+k) big,w')∧Own h.size w' size (.slice (some ⟨w.size,0,none⟩) (n+k) big) (n+k) (cs.drop o++new)∧w'.size=w.size+1∧Ext h w':=by
 have ht:(cs.drop o).take (n*size)=cs.drop o:=List.take_of_length_le Yl
 have hlen:(cs.drop o++new).length=(n+k)*size:=by simp [hn,Nat.add_mul];omega
 have hpos:0 < k*size:=Nat.mul_pos hk hs
 rcases hcap with ⟨rfl,hcb⟩ | rfl
 ·refine ⟨w.push (.cells (cs.drop o++new) size),?_,.inr ⟨w.size,rfl,x.1,by simp,by rw [Heap.Zam,if_pos rfl],hlen⟩,rfl,x.push _⟩
  simp only [iapp]
  rw [if_neg Ya,if_neg Ya]
  simp only [iput,hg]
  rw [if_neg Yl,if_pos hcb,if_neg Ya,ht]
 ·obtain ⟨w1,e1,x1,hs1,g1,k1⟩:=put1 x hb Blk.dead
  refine ⟨w1.push (.cells (cs.drop o++new) size),?_,.inr ⟨w.size,rfl,x.1,by simp;omega,by rw [Heap.Zam,if_pos hs1.symm],hlen⟩,by simp [hs1],x1.push _⟩
  simp only [iapp]
  rw [if_neg Ya,if_neg Ya]
  simp only [iput,hg]
  rw [if_neg Yl,if_neg (Nat.lt_irrefl _),if_pos ⟨trivial,by omega⟩,if_neg (by rw [Nat.add_mul];omega),ht,e1]
theorem Zol {P:Program} {low:Nat} {h:Heap} {t e:TypeId} (hu:P.underlying t=some (.slice e)) (he:P.underlying e=some (.int .u8)) {b o n c:Nat} {cs:List Value} (hg:h.get b= .cells cs 1) (hl:low≤b) (hn:0 < n) :
  Ziq P low h t (some ⟨b,o,none⟩) n c=some (.slice (some ⟨b,o,none⟩) n c,h.set b (.cells cs 1)):=by
 simp only [Ziq,hu,he,hg]
 rw [if_pos ⟨hl,hn,trivial⟩]
theorem ZmJ {w:Heap} {b m:Nat} {cs:List Value} (hg:w.get b= .cells cs 1) (hm:cs.length=m) (h1:1≤m):irsl (some (.slice 1)) w (some ⟨b,0,none⟩) m big (some (.int .i64 1)) none none=some (.slice (some ⟨b,1,none⟩) (m - 1) big):=by
 have hin:Zb4 m ((cs.length - 0) / 1) (some (.int .i64 1)) none none=some (1,m,(cs.length - 0) / 1):=Za6 rfl rfl h1 Yl
 simp only [irsl,Heap.look,hg,Blk.read,Nat.lt_irrefl,if_false,if_true,hin,ne_eq,not_true_eq_false,Nat.zero_add,Nat.one_mul]
theorem o48 {d:Nat} (h:d≤9):(UInt8.ofNat (48+d)).toNat=48+d:=by
 have e:48+d < 256:=Ya
 rw [UInt8.toNat_ofNat_of_lt' Yaf]
theorem bc1 {d:Nat} (h:d≤9):byteCells [UInt8.ofNat (48+d)]=[.int .u8 ((48+d:Nat):Int)]:=by simp only [byteCells,List.map_cons,List.map_nil,o48 h]
end Go.Im
namespace Go.Im.Editing
theorem Zhc:∀ {f n:Nat},(rdF f n).length≤f
 | 0,n=>by simp [rdF]
 | f+1,n=>by
   rw [rdF]
   split
   ·simp
   ·rw [List.length_cons]
    have:=Zhc (f:=f) (n:=n / 10)
    omega
theorem Zpd:∀ {f n:Nat},n < 10 ^ f→∀ {k},n < 10 ^ k→(rdF f n).length≤k
 | 0,n,h,k,_=>by simp [rdF]
 | f+1,n,h,0,hk=>by
   have:n=0:=by simpa using hk
   subst this
   simp [rdF]
 | f+1,n,h,k+1,hk=>by
   rw [rdF]
   split
   ·simp
   ·rw [List.length_cons]
    have:=Zpd (f:=f) (n:=n / 10) (by rw [Nat.pow_succ] at h;omega) (k:=k) (by rw [Nat.pow_succ] at hk;omega)
    omega
theorem ZdZ {f n:Nat} (h:n≠0) (hn:n < 10 ^ (f+1)):rdF (f+1) n=UInt8.ofNat (48+n%10)::rdF (f+1) (n / 10):=by
 rw [rdF,if_neg h]
 congr 1
 exact (Zj0 (by rw [Nat.pow_succ] at hn;omega) Ya).symm
theorem ZjZ {f:Nat}:rdF f 0=[]:=by cases f<;>simp [rdF]
theorem ZoJ {f p:Nat}:frF f 0 p=[]:=by cases f<;>simp [frF]
theorem ZoK {f r p:Nat} (h:r≠0):frF (f+1) r p=UInt8.ofNat (48+r / p)::frF f (r%p) (p / 10):=by rw [frF,if_neg h]
end Go.Im.Editing
namespace Go.Proofs.YtachkofbmodnnaaGreat.E7
open Go Go.Im Go.Im.Lexing Go.Im.Editing Go.Proofs Go.RowKit Hd E2
set_option maxRecDepth 100000
theorem wq {n p:Nat} (hn:n≤10000000) (hp:0 < p):IntKind.i64.wrap (((n:Nat):Int).tdiv ((p:Nat):Int))=((n / p:Nat):Int):=by
 have:((n:Nat):Int).tdiv ((p:Nat):Int)=((n / p:Nat):Int):=by rw [Int.tdiv_eq_ediv_of_nonneg Ya];simp
 have h2:n / p≤n:=Nat.div_le_self _ _
 rw [this]
 generalize n / p=q at h2 ⊢
 rw [wrap_i64 Ya Ya]
theorem wr {n p:Nat}:((n:Nat):Int).tmod ((p:Nat):Int)=((n%p:Nat):Int):=by rw [Int.tmod_eq_emod_of_nonneg Ya];simp
theorem w48 {d:Nat} (h:d≤9):IntKind.i64.wrap (48+((d:Nat):Int))=((48+d:Nat):Int)∧IntKind.u8.wrap ((48+d:Nat):Int)=((48+d:Nat):Int):=by
 refine ⟨?_,?_⟩
 ·rw [wrap_i64 Ya Ya];omega
 ·rw [wrap_u8 Ya Ya]
theorem Zn3 {low b:Nat} {h:Heap} {x0:UInt8} {S:List UInt8} {c:Nat} (hl:low≤b) (hb:b < h.size) (hg:h.get b= .cells (byteCells (x0::S)) 1) (h1:1≤S.length) (h3:S.length≤3) :
  Does K low 31 #[.slice (some ⟨b,1,none⟩) S.length c] h fun r w=>w.get b= .cells (byteCells (x0::S.reverse)) 1∧w.size=h.size∧∀ d,d≠b→w.get d=h.get d:=by
 refine Does.intro rfl Ye Tryz.func31 rfl ?_
 match S,h1,h3 with
 | [x],_,_ =>
   simp +decide only [go_sem,WR,WS,List.length_cons,List.length_nil,show IntKind.i64.wrap (((1:Nat):Int) - 1)=0 from rfl]
   rw [Za8]
   simp +decide only [go_sem,WR,WS,List.length_cons,List.length_nil,show IntKind.i64.wrap (((1:Nat):Int) - 1)=0 from rfl]
   simpa using hg
 | [x,y],_,_ =>
   simp only [byteCells,List.map_cons,List.map_nil] at hg
   obtain ⟨w1,e1,_,hs1,z1,k1⟩:=put1 (⟨Nat.zero_le _,fun _ hh=>absurd hh (Nat.not_lt_zero _)⟩:Ext ⟨0,.leaf⟩ h) (Nat.zero_le b) (.cells [.int .u8 x0.toNat,.int .u8 y.toNat,.int .u8 y.toNat] 1)
   obtain ⟨w2,e2,_,hs2,z2,k2⟩:=put1 (⟨Nat.zero_le _,fun _ hh=>absurd hh (Nat.not_lt_zero _)⟩:Ext ⟨0,.leaf⟩ w1) (Nat.zero_le b) (.cells [.int .u8 x0.toNat,.int .u8 y.toNat,.int .u8 x.toNat] 1)
   simp +decide only [go_sem,WR,WS,List.length_cons,List.length_nil,show IntKind.i64.wrap (((2:Nat):Int) - 1)=1 from rfl,show IntKind.i64.wrap ((0:Int)+1)=1 from rfl,show IntKind.i64.wrap ((1:Int) - 1)=0 from rfl,show Int.toNat 0=0 from rfl,show Int.toNat 1=1 from rfl,show Int.toNat 2=2 from rfl]
   rw [Za8]
   simp +decide only [go_sem,WR,WS,List.length_cons,List.length_nil,show IntKind.i64.wrap (((2:Nat):Int) - 1)=1 from rfl,show IntKind.i64.wrap ((0:Int)+1)=1 from rfl,show IntKind.i64.wrap ((1:Int) - 1)=0 from rfl,show Int.toNat 0=0 from rfl,show Int.toNat 1=1 from rfl,show Int.toNat 2=2 from rfl,hg,hl,e1,z1,e2]
   rw [Za8]
   simp +decide only [go_sem,WR,WS]
   exact ⟨by rw [z2];simp [byteCells],by omega,fun d hd=>by rw [k2 d hd,k1 d hd]⟩
 | [x,y,z],_,_ =>
   simp only [byteCells,List.map_cons,List.map_nil] at hg
   obtain ⟨w1,e1,_,hs1,z1,k1⟩:=put1 (⟨Nat.zero_le _,fun _ hh=>absurd hh (Nat.not_lt_zero _)⟩:Ext ⟨0,.leaf⟩ h) (Nat.zero_le b) (.cells [.int .u8 x0.toNat,.int .u8 z.toNat,.int .u8 y.toNat,.int .u8 z.toNat] 1)
   obtain ⟨w2,e2,_,hs2,z2,k2⟩:=put1 (⟨Nat.zero_le _,fun _ hh=>absurd hh (Nat.not_lt_zero _)⟩:Ext ⟨0,.leaf⟩ w1) (Nat.zero_le b) (.cells [.int .u8 x0.toNat,.int .u8 z.toNat,.int .u8 y.toNat,.int .u8 x.toNat] 1)
   simp +decide only [go_sem,WR,WS,List.length_cons,List.length_nil,show IntKind.i64.wrap (((3:Nat):Int) - 1)=2 from rfl,show IntKind.i64.wrap ((0:Int)+1)=1 from rfl,show IntKind.i64.wrap ((2:Int) - 1)=1 from rfl,show Int.toNat 0=0 from rfl,show Int.toNat 1=1 from rfl,show Int.toNat 2=2 from rfl]
   rw [Za8]
   simp +decide only [go_sem,WR,WS,List.length_cons,List.length_nil,show IntKind.i64.wrap (((3:Nat):Int) - 1)=2 from rfl,show IntKind.i64.wrap ((0:Int)+1)=1 from rfl,show IntKind.i64.wrap ((2:Int) - 1)=1 from rfl,show Int.toNat 0=0 from rfl,show Int.toNat 1=1 from rfl,show Int.toNat 2=2 from rfl,hg,hl,e1,z1,e2]
   rw [Za8]
   simp +decide only [go_sem,WR,WS]
   exact ⟨by rw [z2];simp [byteCells],by omega,fun d hd=>by rw [k2 d hd,k1 d hd]⟩
theorem Zp2 {low b:Nat} {h:Heap} {c:Nat}:Does K low 31 #[.slice (some ⟨b,0,none⟩) 1 c] h fun r w=>h=w:=by
 refine Does.intro rfl Ye Tryz.func31 rfl ?_
 simp +decide only [go_sem,WR,WS]
 rw [Za8]
 simp +decide only [go_sem,WR,WS]
def Vw (h W:Heap) (v:Value) (S:List UInt8):Prop:=∃ b o c cs,v= .slice (some ⟨b,o,none⟩) S.length c∧h.size≤b∧b < W.size∧W.get b= .cells cs 1∧cs.drop o=byteCells S∧o+S.length=cs.length∧((c=S.length∧c < big)∨c=big)
theorem Vw.Zak {h W:Heap} {v:Value} {S:List UInt8} (V:Vw h W v S):Zak W 1 v=some (byteCells S):=by
 obtain ⟨b,o,c,cs,rfl,_,_,hg,hd,hl,_⟩:=V
 simp only [Im.Zak,Heap.look,hg,Blk.read,Nat.mul_one]
 rw [if_pos ⟨trivial,by omega⟩,hd,List.take_of_length_le (by rw [byteCells_length];exact Nat.le_refl _)]
theorem Vw.app {h W:Heap} {v:Value} {S:List UInt8} (V:Vw h W v S) (x:Ext h W) (y:Heap) (hy:Ext W y) (d:UInt8) (hS:S.length≤100):∃ w',iapp h.size y 1 1 v 1 (some (byteCells [d]))=some (.slice (some ⟨y.size,0,none⟩) (S.length+1) big,w') ∧
  Own h.size w' 1 (.slice (some ⟨y.size,0,none⟩) (S.length+1) big) (S.length+1) (byteCells (S++[d]))∧w'.size=y.size+1∧Ext h w':=by
 obtain ⟨b,o,c,cs,rfl,h1,h2,hg,hd,hl,hc⟩:=V
 have:=ZoZ (low:=h.size) (size:=1) (bytes:=1) (o:=o) (n:=S.length) (c:=c) (cs:=cs) (k:=1) (new:=byteCells [d]) (Nat.le_refl _) (x.trans hy) h1 (by have:=hy.1;omega) ((hy.2 b h2).trans hg) Ya hc Ya Ya Yn Ya Ya
 rw [hd,← byteCells_append] at this
 exact this
theorem Zsg {h W:Heap} {v:Value} {S:List UInt8} (H:Own h.size W 1 v S.length (byteCells S)) (h0:S≠[]):Vw h W v S:=by
 rcases H with ⟨_,h1,_⟩ | ⟨b,rfl,h1,h2,h3,h4⟩
 ·exact absurd (List.eq_nil_of_length_eq_zero h1) h0
 ·exact ⟨b,0,big,_,rfl,h1,h2,h3,rfl,by rw [byteCells_length];omega,.inr rfl⟩
set_option maxHeartbeats 1000000 in
theorem ZgI (n:Nat) (h:Heap) (hn:n≤9999999):Runs K 11 #[.int .i64 (n:Int)] h fun r w=>r= .string (text (numT n)):=by
 refine Runs.of Kok (Does.intro rfl Ye Tryz.func11 rfl ?_)
 obtain ⟨w1,e1,x1,hs1,z1⟩:=lay1 h (.cells [.int .u8 48] 1)
 obtain ⟨w2,e2,x2,hs2,z2,k2⟩:=put1 x1 (Nat.le_refl _) (.cells [.int .u8 48] 1)
 have f1:=Zol (P:=Tryz.prog) (low:=h.size) Tryz.underlying63 Tryz.underlying5 (o:=0) (n:=1) (c:=1) z1 (Nat.le_refl _) Ya
 rw [e2] at f1
 obtain ⟨w0,hw0⟩:∃ w0,w0=n / 10000:=⟨_,rfl⟩
 have hwl:w0 < 1000:=Ya
 have tenk:((10000:Nat):Int)≠0:=YI
 have q0:IntKind.i64.wrap (((n:Nat):Int).tdiv 10000)=((w0:Nat):Int):=by rw [hw0];exact wq (p:=10000) Ya Ya
 have ten:(10:Int)≠0:=YI
 apply Za1 (α:=Value) (fun v e W=>e.size=53∧Ext h W∧e.get 0= .int .i64 (n:Int)∧e.get 3=v∧Vw h W v (ZaH w0))
 ·intro cont
  simp +decide only [go_sem,WR,WS,e1,f1,show (10000:Int)≠0 by decide,q0]
  by_cases h0:(0:Int) < ((w0:Nat):Int)
  case neg =>
   have:w0=0:=by omega
   rw [Za8]
   simp +decide only [go_sem,WR,WS,h0]
   refine ZaW rfl Zp2 fun r W hr=> ?_
   subst hr
   simp +decide only [go_sem,WS]
   refine cont (.slice (some ⟨h.size,0,none⟩) 1 1) _ _ ⟨Yc,x2,Yc,Yc,?_⟩
   rw [ZaH,if_pos this]
   exact ⟨h.size,0,1,_,rfl,Nat.le_refl _,by omega,z2,rfl,rfl,.inl ⟨rfl,by simp [big]⟩⟩
  have hw1:w0≠0:=Ya
  have V2:Vw h w2 (.slice (some ⟨h.size,0,none⟩) 1 1) [48]:=⟨h.size,0,1,_,rfl,Nat.le_refl _,by omega,z2,rfl,rfl,.inl ⟨rfl,by simp [big]⟩⟩
  obtain ⟨w3,e3,x3,hs3,z3⟩:=lay1 w2 (.cells [.int .u8 ((48+w0%10:Nat):Int)] 1)
  obtain ⟨w4,e4,own4,hs4,x4⟩:=V2.app x2 w3 x3 (UInt8.ofNat (48+w0%10)) Yp
  have hd9:w0%10≤9:=Ya
  rw [bc1 hd9] at e4
  obtain ⟨m1,m2⟩:=w48 hd9
  have m3:((w0:Nat):Int).tmod 10=((w0%10:Nat):Int):=wr (p:=10)
  have m4:IntKind.i64.wrap (((w0:Nat):Int).tdiv 10)=((w0 / 10:Nat):Int):=wq (p:=10) Ya Ya
  rw [Za8]
  simp +decide only [go_sem,WR,WS,h0,ten,m3,m1,m2,m4,e3,z3,e4]
  refine Zah (α:=Nat × List UInt8 × Value) (fun k e W=>e.size=53∧Ext h W∧e.get 0= .int .i64 (n:Int)∧e.get 3=k.2.2∧e.get 4= .int .i64 (k.1:Int)∧Own h.size W 1 k.2.2 k.2.1.length (byteCells k.2.1)∧k.1 < 1000∧2≤k.2.1.length∧k.2.1++rdF 5 k.1=48::rdF 5 w0) (fun k=>k.1) (w0 / 10,[48,UInt8.ofNat (48+w0%10)],.slice (some ⟨w3.size,0,none⟩) 2 big) ?_ ?_
  ·refine ⟨Yc,x4,Yc,Yc,Yc,own4,by simp only;omega,by simp,?_⟩
   rw [ZdZ hw1 Ya]
   rfl
  clear e4 own4 x4 e3 x3 z3 hs3 hs4
  rintro ⟨w',S,v⟩ e W ⟨hsz,xW,g0,g3,g4,own,hw',hS2,hSd⟩ next
  simp only at g3 g4 own hw' hS2 hSd
  have hlen:S.length+(rdF 5 w').length=1+(rdF 5 w0).length:=by
   have:=congrArg List.length hSd
   simp only [List.length_append,List.length_cons] at this
   omega
  have hl3:(rdF 5 w0).length≤3:=Zpd Ya (k:=3) Ya
  by_cases h1:(0:Int) < ((w':Nat):Int)
  ·obtain ⟨w3,e3,x3,hs3,z3⟩:=lay1 W (.cells [.int .u8 ((48+w'%10:Nat):Int)] 1)
   obtain ⟨w4,e4,own4,hs4,x4⟩:=Zbu (low:=h.size) (bytes:=1) (k:=1) (new:=byteCells [UInt8.ofNat (48+w'%10)]) (Nat.le_refl _) (xW.trans x3) (own.ext x3) Ya Ya rfl Ya Ya
   have hd9:w'%10≤9:=Ya
   rw [← byteCells_append] at own4
   rw [bc1 hd9] at e4
   obtain ⟨m1,m2⟩:=w48 hd9
   have m3:((w':Nat):Int).tmod 10=((w'%10:Nat):Int):=wr (p:=10)
   have m4:IntKind.i64.wrap (((w':Nat):Int).tdiv 10)=((w' / 10:Nat):Int):=wq (p:=10) Ya Ya
   simp +decide only [go_sem,WR,WS,hsz,g0,g3,g4,h1,ten,m3,m1,m2,m4,e3,z3,e4]
   refine next (w' / 10,S++[UInt8.ofNat (48+w'%10)],.slice (some ⟨w3.size,0,none⟩) (S.length+1) big) _ _ ⟨Yb,x4,by simp +decide only [go_sem,hsz,g0],Yb,Yb,by rw [List.length_append];exact own4,by simp only;omega,by simp;omega,?_⟩ Yj
   rw [ZdZ Ya Ya] at hSd
   rw [List.append_assoc]
   exact hSd
  ·have hw0':w'=0:=by omega
   subst hw0'
   rw [ZjZ,List.append_nil] at hSd
   rcases own with ⟨_,hh,_⟩ | ⟨b,rfl,hb1,hb2,hb3,hb4⟩
   ·omega
   have i1:=ZmJ hb3 (m:=S.length) (by rw [byteCells_length]) Ya
   have hm1:(1:Int) < ((S.length:Nat):Int):=Ya
   simp +decide only [go_sem,WR,WS,hsz,g0,g3,g4,h1,hm1,i1]
   rw [hSd] at hb3
   have hSl:S.length - 1=(rdF 5 w0).length:=by rw [hSd];simp
   rw [hSl]
   refine ZaW rfl (Zn3 hb1 hb2 hb3 Ya hl3) fun r W' hr=> ?_
   obtain ⟨r1,r2,r3⟩:=hr
   simp +decide only [go_sem,WS,hsz]
   refine cont (.slice (some ⟨b,1,none⟩) (rdF 5 w0).length big) _ _ ⟨Yb,⟨by have:=xW.1;omega,fun d hd=>(r3 d Ya).trans (xW.2 d hd)⟩,by simp +decide only [go_sem,hsz,g0],Yb,?_⟩
   rw [ZaH,if_neg hw1]
   exact ⟨b,1,big,_,by rw [List.length_reverse],hb1,by omega,r1,rfl,by simp [byteCells];omega,.inr rfl⟩
 rintro v e W ⟨hsz,xW,g0,g3,V⟩
 obtain ⟨r0,hr0⟩:∃ r0,r0=n%10000:=⟨_,rfl⟩
 have hrl:r0 < 10000:=Ya
 have q1:((n:Nat):Int).tmod 10000=((r0:Nat):Int):=by rw [hr0];exact wr (p:=10000)
 have hnum:numT n=ZaH w0++Zgb r0:=by rw [numT,hw0,hr0]
 have hwl':=(Zj5 hwl).2.2.1
 by_cases h0:(0:Int) < ((r0:Nat):Int)
 case neg =>
  have:r0=0:=by omega
  have hi:=V.Zak
  simp +decide only [go_sem,WR,WS,hsz,g0,g3,show (10000:Int)≠0 by decide,q1,h0]
  rw [Za8]
  obtain ⟨b,o,c,cs,rfl,_⟩:=V
  rw [ZcX] at hi
  simp +decide only [go_sem,WR,WS,hsz,g0,g3,h0,hi,Zcs]
  rw [hnum,this]
  simp [Zgb]
 have hr1:r0≠0:=Ya
 obtain ⟨w3,e3,x3,hs3,z3⟩:=lay1 W (.cells [.int .u8 46] 1)
 obtain ⟨w4,e4,own4,hs4,x4⟩:=V.app xW w3 x3 46 Ya
 have b46:byteCells [46]=[.int .u8 46]:=rfl
 rw [b46] at e4
 simp +decide only [go_sem,WR,WS,hsz,g0,g3,show (10000:Int)≠0 by decide,q1,h0,e3,z3,e4]
 refine Zah (α:=Nat × Nat × Nat × List UInt8 × Value) (fun k e W=>e.size=53∧Ext h W∧e.get 3=k.2.2.2.2∧e.get 5= .int .i64 (k.1:Int)∧e.get 6= .int .i64 (k.2.1:Int)∧Own h.size W 1 k.2.2.2.2 k.2.2.2.1.length (byteCells k.2.2.2.1)∧k.2.2.2.1≠[]∧k.2.2.2.1.length+k.2.2.1≤8 ∧
  (k.1=0∨(1≤k.2.2.1∧k.2.1=10 ^ (k.2.2.1 - 1)∧k.1 < 10*k.2.1))∧k.2.1≤1000∧k.1≤10000∧k.2.2.2.1++frF k.2.2.1 k.1 k.2.1=ZaH w0++Zgb r0) (fun k=>k.2.2.1) (r0,1000,4,ZaH w0++[46],.slice (some ⟨w3.size,0,none⟩) ((ZaH w0).length+1) big) ?_ ?_
 ·refine ⟨Yb,x4,Yb,Yb,by simp +decide only [go_sem,hsz];rfl,by rw [List.length_append];exact own4,by simp,by simp;omega,.inr ⟨by simp only;omega,rfl,by simp only;omega⟩,Nat.le_refl _,by simp only;omega,?_⟩
  simp [Zgb,hr1]
 clear e4 own4 x4 e3 x3 z3 hs3 hs4 V g3 xW hsz g0
 rintro ⟨r,p,f,S,v⟩ e W ⟨hsz,xW,g3,g5,g6,own,hS0,hSf,hrp,hp,hr,hSd⟩ next
 simp only at g3 g5 g6 own hS0 hSf hrp hp hr hSd
 by_cases h1:(0:Int) < ((r:Nat):Int)
 ·obtain ⟨hf1,hpe,hrlt⟩:=hrp.resolve_left Ya
  obtain ⟨g,rfl⟩:∃ g,f=g+1:=⟨f - 1,by omega⟩
  have hp0:0 < p:=Ya
  have hd9:r / p≤9:=by
   have:r / p < 10:=(Nat.div_lt_iff_lt_mul hp0).2 hrlt
   omega
  obtain ⟨w3,e3,x3,hs3,z3⟩:=lay1 W (.cells [.int .u8 ((48+r / p:Nat):Int)] 1)
  obtain ⟨w4,e4,own4,hs4,x4⟩:=Zbu (low:=h.size) (bytes:=1) (k:=1) (new:=byteCells [UInt8.ofNat (48+r / p)]) (Nat.le_refl _) (xW.trans x3) (own.ext x3) Ya Ya rfl Ya Ya
  rw [← byteCells_append] at own4
  rw [bc1 hd9] at e4
  obtain ⟨m1,m2⟩:=w48 hd9
  have pne:((p:Nat):Int)≠0:=Ya
  have m3:=wq (n:=r) (p:=p) Ya hp0
  have m4:=wr (n:=r) (p:=p)
  have m5:IntKind.i64.wrap (((p:Nat):Int).tdiv 10)=((p / 10:Nat):Int):=wq (p:=10) Ya Ya
  have hmod:r%p < p:=Nat.mod_lt _ hp0
  have u1:Zaj Tryz.prog .quo 3 (.int .i64 ((r:Nat):Int)) (.int .i64 ((p:Nat):Int))=some (.int .i64 ((r / p:Nat):Int)):=by rw [Zct pne,m3]
  have u2:Zaj Tryz.prog .rem 3 (.int .i64 ((r:Nat):Int)) (.int .i64 ((p:Nat):Int))=some (.int .i64 ((r%p:Nat):Int)):=by rw [ZbD pne,m4]
  simp +decide only [go_sem,WR,WS,hsz,g3,g5,g6,h1,u1,u2,ten,m1,m2,m5,e3,z3,e4]
  refine next (r%p,p / 10,g,S++[UInt8.ofNat (48+r / p)],.slice (some ⟨w3.size,0,none⟩) (S.length+1) big) _ _ ⟨Yb,x4,Yb,Yb,Yb,by rw [List.length_append];exact own4,by simp,by simp;omega,?_,by simp only;omega,by simp only;omega,?_⟩ Yj
  ·simp only
   rw [Nat.add_sub_cancel] at hpe
   cases g with
   | zero =>
     left
     have p1:p=1:=by simpa using hpe
     rw [p1]
     exact Nat.mod_one r
   | succ g =>
     right
     rw [Nat.pow_succ] at hpe
     refine ⟨by omega,?_,by omega⟩
     rw [Nat.add_sub_cancel]
     omega
  ·rw [ZoK Ya] at hSd
   rw [List.append_assoc]
   exact hSd
 ·have hr00:r=0:=by omega
  subst hr00
  rw [ZoJ,List.append_nil] at hSd
  have V:=Zsg own hS0
  have hi:=V.Zak
  obtain ⟨b,o,c,cs,rfl,_⟩:=V
  rw [ZcX] at hi
  simp +decide only [go_sem,WR,WS,hsz,g3,g5,g6,h1,hi,Zcs]
  rw [hnum,hSd]
theorem ZbS (n:Nat) (h:Heap) (hn:n≤99999):Runs K 32 #[.int .i64 (n:Int)] h fun r w=>r= .string (text (ZaH n)):=by
 refine Runs.of Kok (Does.intro rfl Ye Tryz.func32 rfl ?_)
 have ten:(10:Int)≠0:=YI
 have emp:(⟨#[]⟩:ByteArray)=text []:=rfl
 have ne:∀ S:List UInt8,S≠[]→¬ text S=text []:=fun S hS hh=>hS (ZdT.1 hh)
 have lo:∀ {f n:Nat},(rdF f n).length≤f:=fun {f n}=>Zhc
 simp +decide only [go_sem,WR,WS]
 refine Zah (α:=Nat × List UInt8) (fun k e W=>e.size=21∧Ext h W∧e.get 0= .int .i64 (k.1:Int)∧e.get 3= .string (text k.2)∧k.1≤99999∧(k.2=[]→k.1=n)∧(k.2≠[]→(rdF 5 k.1).reverse++k.2=ZaH n)∧k.2.length≤5) (fun k=>2*k.1+if k.2=[] then 1 else 0) (n,[]) ?_ ?_
 ·exact ⟨Yc,Ext.refl h,Yc,by simp +decide only [go_sem];rfl,hn,fun _=>rfl,fun hh=>absurd rfl hh,by simp⟩
 rintro ⟨m,S⟩ e W ⟨hsz,xW,g0,g3,hm,hS0,hS1,hSl⟩ next
 simp only at g0 g3 hm hS0 hS1 hSl
 have done:¬ (0:Int) < ((m:Nat):Int)→S≠[]→text S=text (ZaH n):=fun h1 hS=>by
  have:=hS1 hS
  have m0:m=0:=Ya
  rw [m0,ZjZ] at this
  rw [← this]
  rfl
 have hd9:m%10≤9:=Ya
 obtain ⟨m1,m2⟩:=w48 hd9
 have m3:((m:Nat):Int).tmod 10=((m%10:Nat):Int):=wr (p:=10)
 have m4:IntKind.i64.wrap (((m:Nat):Int).tdiv 10)=((m / 10:Nat):Int):=wq (p:=10) Ya Ya
 obtain ⟨w3,e3,x3,hs3,z3⟩:=lay1 W (.cells [.int .u8 ((48+m%10:Nat):Int)] 1)
 have cv:=Zcs (l:=[UInt8.ofNat (48+m%10)]) (h:=w3)
 rw [bc1 hd9] at cv
 have cat:=Zb1 (P:=Tryz.prog) (t:=9) (a:=[UInt8.ofNat (48+m%10)]) (b:=S) Yl
 have step:(0 < m∨S=[])→(UInt8.ofNat (48+m%10)::S≠[]→(rdF 5 (m / 10)).reverse++UInt8.ofNat (48+m%10)::S=ZaH n):=fun hc _=>by
  by_cases hm0:m=0
  ·have hS:S=[]:=hc.resolve_left Ya
   have hn0:=hS0 hS
   subst hS
   rw [← hn0,hm0]
   rfl
  ·have e5:(rdF 5 m).reverse=(rdF 5 (m / 10)).reverse++[UInt8.ofNat (48+m%10)]:=by rw [ZdZ hm0 Ya,List.reverse_cons]
   by_cases hS:S=[]
   ·have hn0:=hS0 hS
    subst hS
    rw [← hn0,ZaH,if_neg hm0,e5]
   ·rw [← hS1 hS,e5,List.append_assoc]
    rfl
 have few:(0 < m∨S=[])→S.length+1≤5:=fun hc=>by
  by_cases hS:S=[]
  ·rw [hS]
   simp
  ·have hm0:m≠0:=by
    rcases hc with hc | hc
    ·omega
    ·exact absurd hc hS
   have:=congrArg List.length (hS1 hS)
   simp only [List.length_append,List.length_reverse] at this
   have h1:1≤(rdF 5 m).length:=by rw [ZdZ hm0 Ya];simp
   have h2:(ZaH n).length≤5:=by
    unfold ZaH
    split
    ·simp
    ·rw [List.length_reverse]
     exact Zhc
   omega
 by_cases h1:(0:Int) < ((m:Nat):Int)
 ·simp +decide only [go_sem,WR,WS,hsz,g0,g3,h1,ten,m3,m1,m2,m4,e3,z3,cv,cat]
  refine next (m / 10,UInt8.ofNat (48+m%10)::S) _ _ ⟨Yb,xW.trans x3,Yb,Yb,by simp only;omega,by simp,step (.inl Ya),by simpa using few (.inl Ya)⟩ ?_
  simp only
  rw [if_neg Yp]
  omega
 ·by_cases hS:S=[]
  ·have hm0:m=0:=by omega
   subst hS
   simp +decide only [go_sem,WR,WS,hsz,g0,g3,h1,emp,ten,m3,m1,m2,m4,e3,z3,cv,cat]
   refine next (m / 10,[UInt8.ofNat (48+m%10)]) _ _ ⟨Yb,xW.trans x3,Yb,Yb,by simp only;omega,by simp,step (.inr rfl),by simp⟩ ?_
   simp only
   rw [if_neg Yp,if_pos trivial]
   omega
  ·simp +decide only [go_sem,WR,WS,hsz,g0,g3,h1,emp,ne S hS]
   rw [done h1 hS]
theorem Zp0:rt0 []=[]:=rfl
theorem ZjX (T:List UInt8) (c:UInt8):rt0 (T++[c])=if c=48 then rt0 T else T++[c]:=by
 unfold rt0
 rw [List.reverse_append,List.reverse_singleton,List.singleton_append]
 by_cases h:c=48
 ·rw [if_pos h,List.dropWhile_cons_of_pos (by simp [h])]
 ·rw [if_neg h,List.dropWhile_cons_of_neg (by simp [h]),List.reverse_cons,List.reverse_reverse]
theorem ZfQ (n:Nat) (h:Heap) (hn:n≤9999999):Runs K 12 #[.int .i64 (n:Int)] h fun r w=>r= .string (text (numT n)):=by
 refine Runs.of Kok (Does.intro rfl Ye Tryz.func12 rfl ?_)
 obtain ⟨w0,hw0⟩:∃ w0,w0=n / 10000:=⟨_,rfl⟩
 obtain ⟨r0,hr0⟩:∃ r0,r0=n%10000:=⟨_,rfl⟩
 have hwl:w0 < 1000:=Ya
 have hrl:r0 < 10000:=Ya
 have tenk:(10000:Int)≠0:=YI
 have q0:IntKind.i64.wrap (((n:Nat):Int).tdiv 10000)=((w0:Nat):Int):=by rw [hw0];exact wq (p:=10000) Ya Ya
 have q1:((n:Nat):Int).tmod 10000=((r0:Nat):Int):=by rw [hr0];exact wr (p:=10000)
 have q2:IntKind.i64.wrap (10000+((r0:Nat):Int))=((10000+r0:Nat):Int):=Yd
 have hnum:numT n=ZaH w0++Zgb r0:=by rw [numT,hw0,hr0]
 have hwl':=(Zj5 hwl).2.2.1
 have hT:ZaH (10000+r0)=(rdF 5 (10000+r0)).reverse:=by rw [ZaH,if_neg Ya]
 have hTl:(ZaH (10000+r0)).length≤5:=by rw [hT,List.length_reverse];exact Zhc
 have hT1:1≤(ZaH (10000+r0)).length:=by rw [hT,List.length_reverse,ZdZ Ya Ya];simp
 obtain ⟨T0,hT0⟩:∃ T0,T0=(ZaH (10000+r0)).drop 1:=⟨_,rfl⟩
 have hT0l:T0.length≤4:=by rw [hT0,List.length_drop];omega
 have hrt:rt0 T0=if r0=0 then [] else frF 4 r0 1000:=by
  by_cases h0:r0=0
  ·rw [if_pos h0,hT0,hT,h0]
   exact ZpN
  ·rw [if_neg h0,hT0,hT]
   exact (Zj6 hrl h0).2.2.2.2.symm
 have emp:(⟨#[]⟩:ByteArray)=text []:=rfl
 have dot:(⟨#[46]⟩:ByteArray)=text [46]:=rfl
 simp +decide only [go_sem,WR,WS,tenk,q0]
 refine Zaa Kok (Nat.le_refl _) (ZbS w0 h Ya) fun r w x hr=> ?_
 subst hr
 simp +decide only [go_sem,WR,WS,tenk,q1,q2]
 refine Zaa Kok x.1 (ZbS (10000+r0) w Ya) fun r w' x' hr=> ?_
 subst hr
 have s1:(((ZaH (10000+r0)).drop 1).take ((ZaH (10000+r0)).length - 1))=T0:=by rw [List.take_of_length_le Yp,hT0]
 simp +decide only [go_sem,WR,WS,show Int.toNat 1=1 from rfl,hT1,s1]
 have x2:=x.trans x'
 refine Zah (α:=List UInt8) (fun T e W=>e.size=36∧Ext h W∧e.get 3= .string (text (ZaH w0))∧e.get 4= .string (text T)∧rt0 T=rt0 T0∧T.length≤4) (fun T=>T.length) T0 ?_ ?_
 ·exact ⟨Yc,x2,Yc,Yc,rfl,hT0l⟩
 rintro T e W ⟨hsz,xW,g3,g4,hrtT,hTl'⟩ next
 rcases List.eq_nil_or_concat T with rfl | ⟨T',c,rfl⟩
 ·rw [Zp0,hrt] at hrtT
  have h00:r0=0:=by
   by_cases h0:r0=0
   ·exact h0
   ·rw [if_neg h0] at hrtT
    have:=(Zj6 hrl h0).2.1
    rw [← hrtT] at this
    simp at this
  simp +decide only [go_sem,WR,WS,hsz,g3,g4,emp,List.length_nil,Int.natCast_zero,Int.lt_irrefl]
  rw [hnum,h00]
  simp [Zgb]
 rw [List.concat_eq_append] at *
 have hl1:(T'++[c]).length=T'.length+1:=Yp
 have d0:(0:Int) < ((T'.length+1:Nat):Int):=Ya
 have i1:IntKind.i64.wrap (((T'.length+1:Nat):Int) - 1)=((T'.length:Nat):Int):=by rw [wrap_i64 (by rw [hl1] at hTl';omega) (by rw [hl1] at hTl';omega)];omega
 have ic:=ZgR (l:=T'++[c]) (i:=T'.length) (a:=c) Yp
 have c0:(0:Int)≤((T'.length:Nat):Int):=Ya
 have c1:T'.length≤T'.length+1:=Ya
 have tk:((T'++[c]).drop 0).take (T'.length - 0)=T':=Yp
 by_cases h48:c=48
 ·have hc:((c.toNat:Nat):Int)=48:=by rw [h48];rfl
  rw [ZjX,if_pos h48] at hrtT
  simp +decide only [go_sem,WR,WS,hsz,g3,g4,hl1,d0,i1,ic,hc,c0,Int.toNat_natCast,Nat.zero_le,c1,tk,Nat.sub_zero]
  refine next T' _ _ ⟨Yb,xW,Y3,?_,hrtT,by rw [hl1] at hTl';omega⟩ (by rw [hl1];omega)
  simp +decide only [go_sem,WR,WS,hsz]
  simp
 ·have hc:¬ ((c.toNat:Nat):Int)=48:=by
   intro hh
   apply h48
   apply UInt8.toNat_inj.1
   have:(48:UInt8).toNat=48:=rfl
   omega
  have hne:¬ text (T'++[c])=text []:=fun hh=>by
   have:=ZdT.1 hh
   simp at this
  rw [ZjX,if_neg h48,hrt] at hrtT
  have h0:r0≠0:=by
   intro hh
   rw [if_pos hh] at hrtT
   simp at hrtT
  rw [if_neg h0] at hrtT
  have cat1:=Zb1 (P:=Tryz.prog) (t:=9) (a:=ZaH w0) (b:=[46]) Yl
  have cat2:=Zb1 (P:=Tryz.prog) (t:=9) (a:=ZaH w0++[46]) (b:=T'++[c]) (by simp at hTl' ⊢;omega)
  simp +decide only [go_sem,WR,WS,hsz,g3,g4,hl1,d0,i1,ic,hc,emp,dot,hne,cat1,cat2]
  rw [hnum,Zgb,if_neg h0,← hrtT]
  simp
open Go.Im.Heads in
theorem ZuP {n:Nat} (h:n≤9999999):∀ c ∈ numT n,c.toNat < 128:=by
 have dig:∀ {S:List UInt8},(I8 S).all isD=true→∀ c ∈ S,c.toNat < 128:=fun {S} hS c hc=>by
  have:=List.all_eq_true.1 hS (c.toNat:Int) (List.mem_map.2 ⟨c,hc,rfl⟩)
  simp only [isD,Bool.and_eq_true,decide_eq_true_eq] at this
  omega
 intro c hc
 rw [numT,List.mem_append] at hc
 rcases hc with hc | hc
 ·exact dig (Zj5 Ya).1 c hc
 ·unfold Zgb at hc
  split at hc
  ·simp at hc
  ·rename_i h0
   rcases List.mem_cons.1 hc with rfl | hc
   ·decide
   ·exact dig (Zj6 Ya h0).1 c hc
theorem Zjc {n:Nat} (h:n≤9999999):(numT n).length≤8:=by
 rw [numT,List.length_append]
 have:=(Zj5 (w:=n / 10000) Ya).2.2.1
 have h2:(Zgb (n%10000)).length≤5:=by
  unfold Zgb
  split
  ·simp
  ·rename_i h0
   have:=(Zj6 (r:=n%10000) Ya h0).2.2.1
   simp
   omega
 omega
end Go.Proofs.YtachkofbmodnnaaGreat.E7
namespace Go.Im.Editing
open Go Go.Im Go.Im.Lexing Go.Im.Heads Go.Im.Defn
structure EdT where
 rows:List (Nat × ByteArray)
 nx:Nat
def erv (rows:List (Nat × ByteArray)):List Value:=rows.flatMap fun p=>[.int .i64 (p.1:Int),.string p.2]
theorem ZaT (a:List (Nat × ByteArray)):(erv a).length=a.length*2:=by
 induction a with
 | nil=>rfl
 | cons p a ih =>
   simp only [erv,List.flatMap_cons,List.length_append,List.length_cons,List.length_nil] at ih ⊢
   omega
theorem Za7 (a b:List (Nat × ByteArray)):erv (a++b)=erv a++erv b:=by simp [erv]
theorem ZpA:∀ {rows:List (Nat × ByteArray)} {i:Nat} {p:Nat × ByteArray},rows[i]? =some p→(erv rows)[i*2]? =some (.int .i64 (p.1:Int))∧(erv rows)[i*2+1]? =some (.string p.2)
 | [],i,p,h=>by simp at h
 | q::rows,0,p,h=>by
   cases h
   exact ⟨rfl,rfl⟩
 | q::rows,i+1,p,h=>by
   have e:erv (q::rows)= .int .i64 (q.1:Int):: .string q.2::erv rows:=rfl
   obtain ⟨h1,h2⟩:=ZpA (rows:=rows) (i:=i) YO
   rw [e,show (i+1)*2=i*2+2 by omega]
   exact ⟨h1,by rw [show i*2+2+1=i*2+1+2 by omega];exact h2⟩
def EdT.texts (x:EdT):List ByteArray:=x.rows.map (·.2)
theorem EdT.Zcj (x:EdT):x.texts.length=x.rows.length:=by simp [EdT.texts]
def EV (w:Heap) (v:Value) (x:EdT):Prop:=∃ q a c,v= .pointer (some ⟨q,0,none⟩)∧q < w.size∧w.get q= .cells [.slice a x.rows.length c,.int .i64 (x.nx:Int)] 2∧Sl w 2 a x.rows.length c (erv x.rows)
theorem EV.ext {w w':Heap} (k:Ext w w') {v:Value} {x:EdT} (H:EV w v x):EV w' v x:=by
 obtain ⟨q,a,c,h1,h2,h3,h4⟩:=H
 exact ⟨q,a,c,h1,by have:=k.1;omega,(k.2 q h2).trans h3,h4.ext k⟩
theorem ZhV {h:Heap} {a:Option Addr} {c i:Nat} {rows:List (Nat × ByteArray)} (s:Sl h 2 a rows.length c (erv rows)) {p:Nat × ByteArray} (hp:rows[i]? =some p) :
  ∃ b o cs,a=some ⟨b,o,none⟩∧b < h.size∧(h.get b).read= .cells cs 2∧cs[o+i*2]? =some (.int .i64 (p.1:Int))∧cs[o+i*2+1]? =some (.string p.2)∧(cs.drop (o+i*2)).take 2=[.int .i64 (p.1:Int),.string p.2]∧o+i*2+2≤cs.length:=by
 have hi:i < rows.length:=(List.getElem?_eq_some_iff.1 hp).1
 obtain ⟨b,o,cs,h1,h2,h3,h4,h5⟩:=s.at hi
 obtain ⟨g1,g2⟩:=ZpA hp
 have get:∀ j,j < rows.length*2→cs[o+j]? =(erv rows)[j]? :=fun j hj=>by rw [h5,List.getElem?_take,if_pos hj,List.getElem?_drop]
 have c1:=(get (i*2) Ya).trans g1
 have c2:=(get (i*2+1) Ya).trans g2
 have hle:o+i*2+2≤cs.length:=Ya
 refine ⟨b,o,cs,h1,h2,h3,c1,c2,?_,hle⟩
 obtain ⟨k1,e1⟩:=List.getElem?_eq_some_iff.1 c1
 obtain ⟨k2,e2⟩:=List.getElem?_eq_some_iff.1 c2
 rw [List.drop_eq_getElem_cons k1,e1]
 have k2':o+i*2+1 < cs.length:=k2
 rw [List.drop_eq_getElem_cons k2']
 have e2':cs[o+i*2+1]= .string p.2:=e2
 rw [e2']
 rfl
end Go.Im.Editing
namespace Go.Proofs.YtachkofbmodnnaaGreat.D5
open Go Go.Im Go.Im.Limbs Go.Im.Lexing Go.Im.Heads Go.Im.Editing Go.Im.Defn Go.Proofs Go.RowKit Hd H2 H3 H4 H5 H7 H8 D2 D3 D4 E7
set_option maxRecDepth 100000
def Zck (xs:List ByteArray) (i:Nat):List Value:=sv (xs.take i)++List.replicate (xs.length - i) (.string ByteArray.empty)
theorem ZkF {xs:List ByteArray} {i:Nat} {x:ByteArray} (h:xs[i]? =some x):(Zck xs i).take i++[.string x]++(Zck xs i).drop (i+1)=Zck xs (i+1):=by
 have hi:=(List.getElem?_eq_some_iff.1 h).1
 have hl:(sv (xs.take i)).length=i:=by simp [sv];omega
 unfold Zck
 rw [List.take_append_of_le_length Ya,List.take_of_length_le Ya,List.drop_append,List.drop_of_length_le Ya,hl,List.take_add_one,h,show i+1 - i=1 by omega,show xs.length - i=(xs.length - (i+1))+1 by omega]
 simp [sv,List.replicate_succ]
theorem ZkG (xs:List ByteArray) {i:Nat} (h:i≤xs.length):(Zck xs i).length=xs.length:=by simp [Zck,sv];omega
theorem Zge (x:EdT) (h:Heap) {v:Value} (V:EV h v x) (hm:x.rows.length≤100000):Runs K 28 #[v] h fun r w=>∃ a c,r= .slice a x.texts.length c∧Sl w 1 a x.texts.length c (sv x.texts):=by
 obtain ⟨q,a,c,rfl,hq,hg,s⟩:=V
 refine Runs.of Kok (Does.intro rfl Ye Tryz.func28 rfl ?_)
 obtain ⟨n,hn⟩:∃ n,n=x.rows.length:=⟨_,rfl⟩
 have hnt:x.texts.length=n:=by rw [x.Zcj,hn]
 obtain ⟨w1,e1,x1,hs1,z1⟩:=lay1 h (.cells ((List.replicate n [Value.string ByteArray.empty]).flatten) 1)
 have hfl:(List.replicate n [Value.string ByteArray.empty]).flatten=Zck x.texts 0:=by
  rw [Zck,hnt]
  simp [sv]
 have mk:imk h.size 1 16 [.string ByteArray.empty] ((n:Nat):Int) ((n:Nat):Int)=some (.slice (some ⟨h.size,0,none⟩) n n,some (.cells ((List.replicate n [Value.string ByteArray.empty]).flatten) 1)):=Ziw Ya Ya Ya Ya
 rw [hfl] at z1
 have hg1:w1.get q=_:=(x1.2 q hq).trans hg
 have s1:=s.ext x1
 rw [← hn] at hg hg1 s s1
 simp +decide only [go_sem,WR,WS,hg,mk,e1,hg1]
 refine Zah (α:=Nat) (fun i e W=>i≤n∧e.size=29∧Ext h W∧h.size < W.size∧W.get h.size= .cells (Zck x.texts i) 1∧e.get 3= .slice (some ⟨h.size,0,none⟩) n n∧e.get 15= .slice a n c∧e.get 16= .int .i64 ((n:Nat):Int)∧e.get 17= .int .i64 (i:Int)) (fun i=>n - i) 0 ?_ ?_
 ·exact ⟨Nat.zero_le _,Yc,x1,by omega,z1,Yc,Yc,Yc,by simp +decide only [go_sem];rfl⟩
 rintro i e W ⟨hi,hsz,xW,hW,gW,e3,e15,e16,e17⟩ next
 by_cases hil:(i:Int) < ((n:Nat):Int)
 ·obtain ⟨p,hp⟩:∃ p,x.rows[i]? =some p:=⟨_,List.getElem?_eq_getElem Ya⟩
  have sW:=s.ext xW
  rw [hn] at sW
  obtain ⟨b,o,cs,rfl,q2,q3,q4,q5,q6,q7⟩:=ZhV sW hp
  have c0:(0:Int)≤(i:Int):=Ya
  have i1:IntKind.i64.wrap ((i:Int)+1)=((i+1:Nat):Int):=Yd
  obtain ⟨w2,e2,x2,hs2,z2⟩:=lay1 W (.cells [.int .i64 0,.string ByteArray.empty] 2)
  obtain ⟨w3,f3,x3,hs3,z3,k3⟩:=put1 (x2) (Nat.le_refl _) (.cells [.int .i64 (p.1:Int),.string p.2] 2)
  have g3:w3.get h.size= .cells (Zck x.texts i) 1:=(k3 _ Ya).trans ((x2.2 _ hW).trans gW)
  have hxt:x.texts[i]? =some p.2:=by simp [EdT.texts,hp]
  have htl:=ZkG x.texts (i:=i) Ya
  rw [hnt] at htl
  have hput:=ZkF hxt
  obtain ⟨w4,f4,x4,hs4,z4,k4⟩:=put1 (xW.trans x3) (Nat.le_refl h.size) (.cells (Zck x.texts (i+1)) 1)
  have jW:h.size≤W.size:=xW.1
  have jl:i+1≤n:=Ya
  have hin:(i:Int) < ((n:Nat):Int):=hil
  simp +decide only [go_sem,WR,WS,hsz,e3,e15,e16,e17,hil,c0,Int.toNat_natCast,q3,q6,q7,e2,z2,jW,f3,z3,Nat.mul_one,g3,htl,jl,hput,f4,i1]
  exact next (i+1) _ _ ⟨by omega,Yb,x4,by omega,z4,Yq,by simp +decide only [go_sem,hsz,e15],by simp +decide only [go_sem,hsz,e16],Yb⟩ Ya
 ·have hin:i=n:=by omega
  subst hin
  simp +decide only [go_sem,WR,WS,hsz,e3,e15,e16,e17,hil]
  rw [hnt]
  refine ⟨_,_,rfl,?_⟩
  have e:Zck x.texts i=sv x.texts:=by
   rw [Zck,← hnt]
   simp
  rw [e] at gW
  by_cases h0:i=0
  ·have:x.texts=[]:=List.eq_nil_of_length_eq_zero Ya
   rw [this,h0]
   exact .inr (.inl ⟨_,_,rfl,rfl,rfl,rfl⟩)
  ·exact .inr (.inr ⟨h.size,0,_,rfl,by omega,hW,by rw [gW];rfl,by simp [sv,hnt],by rw [List.drop_zero,List.take_of_length_le (by simp [sv,hnt])],.inl ⟨Nat.le_refl _,by simp [big];omega⟩⟩)
theorem ZeA (x:EdT) (h:Heap) {v:Value} (V:EV h v x) (hm:x.rows.length≤100000):Runs K 41 #[v] h fun r w=>∃ a c,r= .slice a x.texts.length c∧Sl w 1 a x.texts.length c (sv x.texts):=by
 obtain ⟨q,a,c,rfl,hq,hg,s⟩:=V
 refine Runs.of Kok (Does.intro rfl Ye Tryz.func41 rfl ?_)
 obtain ⟨n,hn⟩:∃ n,n=x.rows.length:=⟨_,rfl⟩
 have hnt:x.texts.length=n:=by rw [x.Zcj,hn]
 rw [← hn] at hg s
 simp +decide only [go_sem,WR,WS]
 refine Zah (α:=Nat × Value) (fun i e W=>i.1≤n∧e.size=26∧Ext h W∧e.get 0= .pointer (some ⟨q,0,none⟩)∧e.get 3=i.2∧Own h.size W 1 i.2 i.1 (sv (x.texts.take i.1))∧e.get 4= .int .i64 (i.1:Int)) (fun i=>n - i.1) (0,.slice none 0 0) ?_ ?_
 ·exact ⟨Nat.zero_le _,Yc,Ext.refl h,Yc,Yc,Own.nil _ _ _,by simp +decide only [go_sem];rfl⟩
 rintro ⟨i,u⟩ e W ⟨hi,hsz,xW,e0,e3,own,e4⟩ next
 simp only at hi e3 own e4
 have hgW:W.get q=_:=(xW.2 q hq).trans hg
 by_cases hil:(i:Int) < ((n:Nat):Int)
 ·obtain ⟨p,hp⟩:∃ p,x.rows[i]? =some p:=⟨_,List.getElem?_eq_getElem Ya⟩
  have sW:=s.ext xW
  rw [hn] at sW
  obtain ⟨b,o,cs,rfl,q2,q3,q4,q5,q6,q7⟩:=ZhV sW hp
  have c0:(0:Int)≤(i:Int):=Ya
  have i1:IntKind.i64.wrap ((i:Int)+1)=((i+1:Nat):Int):=Yd
  have hxt:x.texts[i]? =some p.2:=by simp [EdT.texts,hp]
  obtain ⟨w2,e2,x2,hs2,z2⟩:=lay1 W (.cells [.string p.2] 1)
  obtain ⟨w3,f3,o3,hs3,x3⟩:=Zbu (low:=h.size) (bytes:=16) (k:=1) (new:=[.string p.2]) (Nat.le_refl _) (xW.trans x2) (own.ext x2) Ya Ya rfl Ya Ya
  have et:sv (x.texts.take (i+1))=sv (x.texts.take i)++[.string p.2]:=by rw [List.take_add_one,hxt,Zbb];rfl
  rw [← et] at o3
  simp +decide only [go_sem,WR,WS,hsz,e0,e3,e4,hgW,hil,c0,Int.toNat_natCast,q3,q5,e2,z2,f3,i1]
  exact next (i+1,.slice (some ⟨w2.size,0,none⟩) (i+1) big) _ _ ⟨by simp only;omega,Yb,x3,Yf,Yb,o3,Yb⟩ Yj
 ·have hin:i=n:=by omega
  subst hin
  simp +decide only [go_sem,WR,WS,hsz,e0,e3,e4,hgW,hil]
  rw [List.take_of_length_le Ya] at own
  rw [hnt]
  obtain ⟨a',c',rfl⟩:=own.shape
  exact ⟨a',c',rfl,own.sl⟩
def prT (x:EdT):List UInt8:=91::(numT x.nx++[93])
theorem ZgG (x:EdT) (h:Heap) {v:Value} (V:EV h v x) (hm:x.nx≤9999999):Runs K 29 #[v] h fun r w=>r= .string (text (prT x)):=by
 obtain ⟨q,a,c,rfl,hq,hg,s⟩:=V
 refine Runs.of Kok (Does.intro rfl Ye Tryz.func29 rfl ?_)
 have b1:(⟨#[91]⟩:ByteArray)=text [91]:=rfl
 have b2:(⟨#[93]⟩:ByteArray)=text [93]:=rfl
 have nl:=Zjc hm
 have cat1:=Zb1 (P:=Tryz.prog) (t:=9) (a:=[91]) (b:=numT x.nx) Yl
 have cat2:=Zb1 (P:=Tryz.prog) (t:=9) (a:=91::numT x.nx) (b:=[93]) Yl
 rw [List.cons_append] at cat1 cat2
 rw [List.nil_append] at cat1
 simp +decide only [go_sem,WR,WS,hg]
 refine Zaa Kok (Nat.le_refl _) (ZgI x.nx h hm) fun r w x' hr=> ?_
 subst hr
 simp +decide only [go_sem,WR,WS,b1,b2,cat1,cat2,prT]
end Go.Proofs.YtachkofbmodnnaaGreat.D5
namespace Go.Proofs.YtachkofbmodnnaaGreat.D6
open Go Go.Im Go.Im.Limbs Go.Im.Lexing Go.Im.Heads Go.Im.Editing Go.Im.Defn Go.Proofs Go.RowKit Hd H2 H3 H4 H5 H7 H8 D2 D3 D4 D5 E2 E7
set_option maxRecDepth 100000
theorem Zls (n:Int) (h:Heap):Runs K 35 #[.int .i32 n] h fun r w=>h=w∧∃ b,r= .bool b:=by
 refine Runs.of Kok (Does.intro rfl Ye Tryz.func35 rfl ?_)
 by_cases c1:(0:Int)≤n<;>by_cases c2:n < 55296<;>by_cases c3:(57343:Int) < n<;>by_cases c4:n≤1114111<;>simp +decide only [go_sem,WR,WS,c1,c2,c3,c4]<;>exact ⟨_,rfl⟩
theorem ZlP (l:List Int) (h:Heap) {v:Value} (t:Ln h v l):Runs K 16 #[v] h fun r w=>h=w∧∃ b,r= .bool b∧(b=true→l.length≤300):=by
 refine Runs.of Kok (Does.intro rfl Ye Tryz.func16 rfl ?_)
 obtain ⟨a,c,rfl⟩:=t.open
 simp +decide only [go_sem,WR,WS]
 have fin:∃ b,Value.bool (decide (((l.length:Nat):Int)≤300))= .bool b∧(b=true→l.length≤300):=⟨_,rfl,fun hh=>by have:=of_decide_eq_true hh;omega⟩
 refine Zah (α:=Nat) (fun k e w=>k≤l.length∧k≤300∧e.size=23∧h=w∧e.get 0= .slice a l.length c∧e.get 3= .int .i64 (k:Int)) (fun k=>300 - k) 0 ?_ ?_
 ·exact ⟨Nat.zero_le _,by omega,Yc,rfl,Yc,by simp +decide only [go_sem];rfl⟩
 rintro k e w ⟨hk,hk3,hsz,hw,e0,e3⟩ next
 subst hw
 by_cases hkl:(k:Int) < ((l.length:Nat):Int)
 ·by_cases h3:(k:Int) < 300
  ·obtain ⟨x,hx⟩:∃ x,l[k]? =some x:=⟨_,List.getElem?_eq_getElem Ya⟩
   obtain ⟨b,o,cs,hq,q2,q3,q4⟩:=t.one hx
   cases hq
   have c0:(0:Int)≤(k:Int):=Ya
   have i1:IntKind.i64.wrap ((k:Int)+1)=((k+1:Nat):Int):=Yd
   simp +decide only [go_sem,WR,WS,hsz,e0,e3,hkl,h3,c0,Int.toNat_natCast,q3,q4]
   refine Zaa Kok (Nat.le_refl _) (Zls x h) fun r w y hr=> ?_
   obtain ⟨hw,b,rfl⟩:=hr
   subst hw
   cases b
   ·simp +decide only [go_sem,WR,WS,hsz,e0,e3]
    exact ⟨_,rfl,fun hh=>by cases hh⟩
   ·simp +decide only [go_sem,WR,WS,hsz,e0,e3,i1]
    exact next (k+1) _ _ ⟨by omega,by omega,Yb,rfl,Yf,Yb⟩ Ya
  ·simp +decide only [go_sem,WR,WS,hsz,e0,e3,hkl,h3]
   exact fin
 ·simp +decide only [go_sem,WR,WS,hsz,e0,e3,hkl]
  exact fin
theorem ZjL {x:HdT} (G:Heads.Good x):(txtB x).size≤100000:=by
 have hs:∀ b:ByteArray,b.data.toList.length=b.size:=fun b=>by rw [Array.length_toList];rfl
 have hf:∀ ls:List ByteArray,(∀ y ∈ ls,y.size≤96)→((ls.map (·.data.toList)).flatMap fun x=>(59:UInt8)::x).length≤97*ls.length:=by
  intro ls
  induction ls with
  | nil=>intro _;simp
  | cons y ls ih =>
    intro hy
    have h1:=ih fun z hz=>hy z (by simp [hz])
    have h2:=hy y Yp
    have h3:=hs y
    simp only [List.map_cons,List.flatMap_cons,List.length_append,List.length_cons,h3]
    omega
 have h1:=hf x.ls G.ls
 have h2:=G.few
 have h3:=G.nm
 have h4:=G.re
 have h5:=G.le
 have h6:=G.ri
 have e:(txtB x).size=(txtL x).length:=by rw [← hs];rfl
 rw [e,txtL,S3.txt]
 have a1:(if x.re.data.toList=[] then [] else x.re.data.toList++[(226:UInt8),134,144]).length≤99:=by
  split
  ·simp
  ·simp only [List.length_append,hs,List.length_cons,List.length_nil];omega
 have a2:(if x.le.data.toList=[] then [] else x.le.data.toList++[(32:UInt8)]).length≤97:=by
  split
  ·simp
  ·simp only [List.length_append,hs,List.length_cons,List.length_nil];omega
 have a3:(if x.ri.data.toList=[] then [] else (32:UInt8)::x.ri.data.toList).length≤97:=by
  split
  ·simp
  ·simp only [hs,List.length_cons];omega
 have a4:=hs x.nm
 simp only [List.length_append]
 omega
theorem ZiJ (x:EdT) (h:Heap) {v:Value} (V:EV h v x) (hm:x.rows.length≤1000) (hz:∀ r ∈ x.texts,r.size≤100000) :
  Runs K 24 #[v] h fun r w=>∃ u,r= .tuple #[u,.int .i64 (ZaM x.texts).2]∧DV w u (ZaM x.texts).1:=by
 refine Runs.of Kok (Does.intro rfl Ye Tryz.func24 rfl ?_)
 obtain ⟨w0,e0,x0,hs0,z0⟩:=lay1 h (.cells [.string ByteArray.empty,.string ByteArray.empty,.string ByteArray.empty,.string ByteArray.empty,.slice none 0 0,.slice none 0 0,.slice none 0 0] 7)
 simp +decide only [go_sem,WR,WS,e0]
 refine Zaa Kok x0.1 (Zge x w0 (V.ext x0) Ya) fun r w1 x1 hr=> ?_
 obtain ⟨ra,rc,rfl,s1⟩:=hr
 simp +decide only [go_sem,WR,WS]
 refine Zaa Kok (x0.trans x1).1 (Zhj x.texts w1 s1 (by rw [x.Zcj];omega) fun r hr=>Nat.le_trans (hz r hr) Ya) fun r w2 x2 hr=> ?_
 obtain ⟨u,rfl,D⟩:=hr
 have x02:=x0.trans (x1.trans x2)
 have g2:w2.get h.size=_:=((x1.trans x2).2 _ Ya).trans z0
 generalize ZaM x.texts=M at *
 obtain ⟨d,i⟩:=M
 simp only at D
 have D':=D
 obtain ⟨a0,c0,a1,c1,a2,c2,rfl, -⟩:=D'
 have j0:h.size≤h.size:=Nat.le_refl _
 obtain ⟨w3,e3,x3,hs3,z3,k3⟩:=put1 x02 j0 (.cells (dl d.hd (.slice a0 d.hd.ls.length c0) (.slice a1 d.lines.length c1) (.slice a2 d.labels.length c2)) 7)
 have D3:=DV.put D g2 e3
 simp only [dl] at e3 z3
 simp +decide only [go_sem,WR,WS,dl,g2,j0,e3,z3]
 exact ⟨_,rfl,D3⟩
theorem ZlN (x:EdT) (h:Heap) {v u:Value} (V:EV h v x) (U:EV h u x) (hm:x.rows.length≤900) (hz:∀ r ∈ x.texts,r.size≤100000) (hn:x.nx≤9999999) :
  Runs K 19 #[v,u] h fun r w=>r= .bool true:=by
 refine Runs.of Kok (Does.intro rfl Ye Tryz.func19 rfl ?_)
 have b1:(⟨#[91]⟩:ByteArray)=text [91]:=rfl
 have b2:(⟨#[93]⟩:ByteArray)=text [93]:=rfl
 have nl:=Zjc hn
 have cat1:=Zb1 (P:=Tryz.prog) (t:=9) (a:=[91]) (b:=numT x.nx) Yl
 have cat2:=Zb1 (P:=Tryz.prog) (t:=9) (a:=91::numT x.nx) (b:=[93]) Yl
 rw [List.cons_append] at cat1 cat2
 rw [List.nil_append] at cat1
 have ht:x.texts.length≤900:=by rw [x.Zcj];exact hm
 have U':=U
 obtain ⟨q,ua0,uc0,rfl,hq,hg, -⟩:=U'
 simp +decide only [go_sem,WR,WS]
 refine Zaa Kok (Nat.le_refl _) (ZiJ x h V Ya hz) fun r w1 x1 hr=> ?_
 obtain ⟨d1,rfl,D1⟩:=hr
 have rmk:=fun (w:Heap) {a:Option Addr} {c:Nat} (s:Sl w 1 a x.texts.length c (sv x.texts))=>Zh2 x.texts w s Ya fun r hr=>Nat.le_trans (hz r hr) Ya
 have G:=Zea x.texts
 have few:=Zfk x.texts
 generalize ZaM x.texts=M at *
 obtain ⟨d,i⟩:=M
 simp only at D1 G few rmk
 have D1':=D1
 obtain ⟨a0,c0,a1,c1,a2,c2,rfl, -⟩:=D1'
 obtain ⟨w2,e2,x2,hs2,z2⟩:=lay1 w1 (.cells [.string ByteArray.empty,.string ByteArray.empty,.string ByteArray.empty,.string ByteArray.empty,.slice none 0 0,.slice none 0 0,.slice none 0 0] 7)
 obtain ⟨w3,e3,x3,hs3,z3,k3⟩:=put1 x2 (Nat.le_refl _) (.cells (dl d.hd (.slice a0 d.hd.ls.length c0) (.slice a1 d.lines.length c1) (.slice a2 d.labels.length c2)) 7)
 have j1:h.size≤w1.size:=x1.1
 have K3:=x1.trans x3
 simp only [dl] at e3 z3
 simp +decide only [go_sem,WR,WS,dl,e2,z2,j1,e3]
 refine Zaa Kok K3.1 (ZeA x w3 (U.ext K3) Ya) fun r w4 x4 hr=> ?_
 obtain ⟨ra,rc,rfl,s4⟩:=hr
 have K4:=K3.trans x4
 simp +decide only [go_sem,WR,WS]
 refine Zaa Kok K4.1 (rmk w4 s4) fun r w5 x5 hr=> ?_
 obtain ⟨d2,rfl,D2⟩:=hr
 have K5:=K4.trans x5
 have D2':=D2
 obtain ⟨p0,n0,p1,n1,p2,n2,rfl, -⟩:=D2'
 obtain ⟨w6,e6,x6,hs6,z6⟩:=lay1 w5 (.cells [.string ByteArray.empty,.string ByteArray.empty,.string ByteArray.empty,.string ByteArray.empty,.slice none 0 0,.slice none 0 0,.slice none 0 0] 7)
 obtain ⟨w7,e7,x7,hs7,z7,k7⟩:=put1 x6 (Nat.le_refl _) (.cells (dl d.hd (.slice p0 d.hd.ls.length n0) (.slice p1 d.lines.length n1) (.slice p2 d.labels.length n2)) 7)
 have j5:h.size≤w5.size:=K5.1
 have K7:=K5.trans x7
 have z37:w7.get w1.size=_:=((x4.trans (x5.trans x7)).2 _ Ya).trans z3
 have dr1:=Zem d w7 (D1.ext (x3.trans (x4.trans (x5.trans x7)))) G Ya
 have dr2:=fun (w:Heap) (k:Ext w7 w)=>ZgE d w (D2.ext (x7.trans k)) G Ya
 simp only [dl] at e7 z7 z37 dr1 dr2
 by_cases hi:i < 0
 ·simp +decide only [go_sem,WR,WS,dl,e6,z6,j5,e7,z7,z37,hi]
  refine Zaa Kok K7.1 dr1 fun r w8 x8 hr=> ?_
  obtain ⟨fa,fc,rfl,s8⟩:=hr
  have z8:w8.get w5.size=_:=(x8.2 _ Ya).trans z7
  have K8:=K7.trans x8
  simp +decide only [go_sem,WR,WS,z8]
  refine Zaa Kok K8.1 (dr2 w8 x8) fun r w9 x9 hr=> ?_
  obtain ⟨ga,gc,rfl,s9⟩:=hr
  have K9':=K8.trans x9
  simp +decide only [go_sem,WR,WS]
  refine Zaa Kok K9'.1 (ZfE (Zby d) w9 (s8.ext x9) s9 (by rw [ZdW];omega)) fun r w9b x9b hr=> ?_
  obtain ⟨rfl, -⟩:=hr
  have K9:=K9'.trans x9b
  simp +decide only [go_sem,WR,WS]
  refine Zaa Kok K9.1 (ZgG x w9b (V.ext K9) hn) fun r w10 x10 hr=> ?_
  subst hr
  have K10:=K9.trans x10
  have g10:w10.get q=_:=(K10.2 q hq).trans hg
  simp +decide only [go_sem,WR,WS,g10]
  refine Zaa Kok K10.1 (ZfQ x.nx w10 hn) fun r w11 x11 hr=> ?_
  subst hr
  have K11:=K10.trans x11
  simp +decide only [go_sem,WR,WS,b1,b2,cat1,cat2,prT]
  refine Zaa Kok K11.1 (Zge x w11 (V.ext K11) Ya) fun r w12 x12 hr=> ?_
  obtain ⟨ua,uc,rfl,s12⟩:=hr
  have K12:=K11.trans x12
  simp +decide only [go_sem,WR,WS]
  refine Zaa Kok K12.1 (ZeA x w12 (U.ext K12) Ya) fun r w13 x13 hr=> ?_
  obtain ⟨va,vc,rfl,s13⟩:=hr
  simp +decide only [go_sem,WR,WS]
  refine Zaa Kok (K12.trans x13).1 (ZfE x.texts w13 (s12.ext x13) s13 (by rw [x.Zcj];omega)) fun r w14 x14 hr=> ?_
  obtain ⟨rfl, -⟩:=hr
  simp +decide only [go_sem,WR,WS]
 ·simp +decide only [go_sem,WR,WS,dl,e6,z6,j5,e7,hi]
  refine Zaa Kok K7.1 (ZgG x w7 (V.ext K7) hn) fun r w10 x10 hr=> ?_
  subst hr
  have K10:=K7.trans x10
  have g10:w10.get q=_:=(K10.2 q hq).trans hg
  simp +decide only [go_sem,WR,WS,g10]
  refine Zaa Kok K10.1 (ZfQ x.nx w10 hn) fun r w11 x11 hr=> ?_
  subst hr
  have K11:=K10.trans x11
  simp +decide only [go_sem,WR,WS,b1,b2,cat1,cat2,prT]
  refine Zaa Kok K11.1 (Zge x w11 (V.ext K11) Ya) fun r w12 x12 hr=> ?_
  obtain ⟨ua,uc,rfl,s12⟩:=hr
  have K12:=K11.trans x12
  simp +decide only [go_sem,WR,WS]
  refine Zaa Kok K12.1 (ZeA x w12 (U.ext K12) Ya) fun r w13 x13 hr=> ?_
  obtain ⟨va,vc,rfl,s13⟩:=hr
  simp +decide only [go_sem,WR,WS]
  refine Zaa Kok (K12.trans x13).1 (ZfE x.texts w13 (s12.ext x13) s13 (by rw [x.Zcj];omega)) fun r w14 x14 hr=> ?_
  obtain ⟨rfl, -⟩:=hr
  simp +decide only [go_sem,WR,WS]
end Go.Proofs.YtachkofbmodnnaaGreat.D6
