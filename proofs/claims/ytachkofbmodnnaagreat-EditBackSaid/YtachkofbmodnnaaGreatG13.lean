/- Proved here: parts of the way to BEditBack (BN18 BN19 BR2 BR3); no condition beyond those that each theorem names. -/
import Derived.Test.YtachkofbmodnnaaGreatG12
import Derived.Test.YtachkofbmodnnaaGreatG11
set_option linter.unusedSimpArgs false
set_option linter.unusedVariables false
namespace Go.Proofs.YtachkofbmodnnaaGreat.N18
open Go Go.Im Go.Im.Limbs Go.Im.Lexing Go.Proofs Go.RowKit Hd N1 N10 N11 N12 N13 N14 N15 N16 N17
set_option maxRecDepth 100000
def Arr5 (l:List Value):Prop:=∃ a n c b a2 n2 c2 a3 n3 c3 m,l=[.slice a n c,.bool b,.slice a2 n2 c2,.slice a3 n3 c3,.bool m]
theorem ZuO (h:Heap) {v:Value} {m:Nat} {s:Bool} {d:Nat} (hv:RatV h v m s d):Runs K 118 #[v] h fun r _=>∃ l,r= .agg l.toArray∧Arr5 l:=by
 obtain ⟨p,q,rfl,hp,hq⟩:=hv
 obtain ⟨a,n,c,rfl⟩:=Zaf hp
 obtain ⟨a',n',c',rfl⟩:=Zaf hq
 refine Runs.of Kok (Does.intro rfl Ye Tryz.func118 rfl ?_)
 simp +decide only [go_sem,WR,WS]
 exact ⟨_,rfl,_,_,_,_,_,_,_,_,_,_,_,rfl⟩
theorem ZoV (c:Int) (h:Heap):Runs K 122 #[.int .i32 c] h fun r _=>∃ l,r= .agg l.toArray∧Arr5 l:=by
 refine Runs.of Kok (Does.intro rfl Ye Tryz.func122 rfl ?_)
 simp +decide only [go_sem,WR,WS]
 exact ⟨_,rfl,_,_,_,_,_,_,_,_,_,_,_,rfl⟩
theorem Znq (h:Heap) {a:Option Addr} {n c:Nat} {xs:List Value} (s:Sl h 1 a n c xs) (hn:n≤1000000):Runs K 142 #[.slice a n c] h fun r _=>∃ a' n' c',r= .slice a' n' c':=by
 refine Runs.of Kok (Does.intro rfl Ye Tryz.func142 rfl ?_)
 cases a with
 | none =>
   simp +decide only [go_sem,WR,WS]
   exact ⟨_,_,_,rfl⟩
 | some ad =>
   obtain ⟨w1,e1,x1,hs1,g1⟩:=lay1 h (.cells [] 1)
   obtain ⟨a2,c2,w2,e2,x2,_⟩:=app0 (low:=h.size) (bytes:=8) (new:=xs) (k:=n) g1 Ya Ya (by have:=s.length;omega) Ya Ya
   have hi:=(s.ext x1).isl
   obtain ⟨b,o,rfl⟩:∃ b o,ad=⟨b,o,none⟩:=by
    rcases s with ⟨h1,_⟩ | ⟨b,o,h1,_⟩ | ⟨b,o,_,h1,_⟩
    ·cases h1
    ·cases h1;exact ⟨b,o,rfl⟩
    ·cases h1;exact ⟨b,o,rfl⟩
   rw [ZcX] at hi
   simp +decide only [go_sem,WR,WS,e1,hi,e2]
   exact ⟨_,_,_,rfl⟩
theorem Znp (h:Heap) {a:Option Addr} {n c:Nat} {xs:List Value} (s:Sl h 3 a n c xs) (hn:n≤1000000):Runs K 143 #[.slice a n c] h fun r _=>∃ a' n' c',r= .slice a' n' c':=by
 refine Runs.of Kok (Does.intro rfl Ye Tryz.func143 rfl ?_)
 cases a with
 | none =>
   simp +decide only [go_sem,WR,WS]
   exact ⟨_,_,_,rfl⟩
 | some ad =>
   obtain ⟨w1,e1,x1,hs1,g1⟩:=lay1 h (.cells [] 3)
   obtain ⟨a2,c2,w2,e2,x2,_⟩:=app0 (low:=h.size) (bytes:=56) (new:=xs) (k:=n) g1 Ya Ya (by have:=s.length;omega) Ya Ya
   have hi:=(s.ext x1).isl
   obtain ⟨b,o,rfl⟩:∃ b o,ad=⟨b,o,none⟩:=by
    rcases s with ⟨h1,_⟩ | ⟨b,o,h1,_⟩ | ⟨b,o,_,h1,_⟩
    ·cases h1
    ·cases h1;exact ⟨b,o,rfl⟩
    ·cases h1;exact ⟨b,o,rfl⟩
   rw [ZcX] at hi
   simp +decide only [go_sem,WR,WS,e1,hi,e2]
   exact ⟨_,_,_,rfl⟩
theorem Zll (h:Heap) {a:Option Addr} {n c:Nat} {xs:List Value} (s:Sl h 1 a n c xs) (hn:n≤1000000):Runs K 144 #[.slice a n c] h fun r _=>∃ a' n' c',r= .slice a' n' c':=by
 refine Runs.of Kok (Does.intro rfl Ye Tryz.func144 rfl ?_)
 cases a with
 | none =>
   simp +decide only [go_sem,WR,WS]
   exact ⟨_,_,_,rfl⟩
 | some ad =>
   obtain ⟨w1,e1,x1,hs1,g1⟩:=lay1 h (.cells [] 1)
   obtain ⟨a2,c2,w2,e2,x2,_⟩:=app0 (low:=h.size) (bytes:=4) (new:=xs) (k:=n) g1 Ya Ya (by have:=s.length;omega) Ya Ya
   have hi:=(s.ext x1).isl
   obtain ⟨b,o,rfl⟩:∃ b o,ad=⟨b,o,none⟩:=by
    rcases s with ⟨h1,_⟩ | ⟨b,o,h1,_⟩ | ⟨b,o,_,h1,_⟩
    ·cases h1
    ·cases h1;exact ⟨b,o,rfl⟩
    ·cases h1;exact ⟨b,o,rfl⟩
   rw [ZcX] at hi
   simp +decide only [go_sem,WR,WS,e1,hi,e2]
   exact ⟨_,_,_,rfl⟩
theorem ZnT (h:Heap) {a:Option Addr} {n c:Nat} {xs:List Value} (s:Sl h 1 a n c xs) (hn:n≤1000000):Runs K 123 #[.slice a n c] h fun r _=>∃ l,r= .agg l.toArray∧Arr5 l:=by
 refine Runs.of Kok (Does.intro rfl Ye Tryz.func123 rfl ?_)
 obtain ⟨w1,e1,x1,hs1,g1⟩:=lay2 h (.cells [.slice none 0 0,.bool false,.slice none 0 0,.slice none 0 0,.bool false] 5) (.cells [.int .i64 (n:Int)] 1)
 simp +decide only [go_sem,WR,WS,e1]
 refine Zaa Kok x1.1 (Zll w1 (s.ext x1) hn) fun r w2 x2 hr=> ?_
 obtain ⟨a',n',c',rfl⟩:=hr
 have g2:w2.get h.size=_:=(x2.2 _ Ya).trans g1.1
 simp +decide only [go_sem,WR,WS,g2]
 exact ⟨_,rfl,_,_,_,_,_,_,_,_,_,_,_,rfl⟩
theorem count_one (n:Nat) (h:Heap) {b:Nat} (hg:h.get b= .cells [.int .i64 (n:Int)] 1) (h0:0 < n) (hn:n≤4096):Runs K 141 #[.slice (some ⟨b,0,none⟩) 1 1] h fun r _=>r= .tuple #[.int .i64 (n:Int),.bool true]:=by
 refine Runs.of Kok (Does.intro rfl Ye Tryz.func141 rfl ?_)
 have q1:¬ (n:Int) < 0:=Ya
 have q2:IntKind.i64.wrap ((4096:Int).tdiv 1)=4096:=rfl
 have q3:¬ (4096:Int) < (n:Int):=Ya
 have q4:¬ (n:Int)=0:=Ya
 have q5:max (1:Int) (n:Int)=(n:Int):=Ya
 have q6:IntKind.i64.wrap (1*(n:Int))=(n:Int):=Yd
 have q7:IntKind.i64.wrap (0+1)=1:=rfl
 simp +decide only [go_sem,WR,WS]
 rw [Za8]
 simp +decide only [go_sem,WR,WS,hg,q1,Zct (show (1:Int)≠0 by omega),q2,q3,q4,q5,q6,q7]
 rw [Za8]
 simp +decide only [go_sem,WR,WS,hg]
theorem Zof (h:Heap) {b n:Nat} {v:Value} {xs:List Value} (hg:h.get b= .cells [.int .i64 (n:Int)] 1) (hb:b < h.size) (h0:0 < n) (hn:n≤4096) {a:Option Addr} {c:Nat} (s:Sl h 3 a n c xs) :
  Runs K 119 #[.slice (some ⟨b,0,none⟩) 1 1,.slice a n c] h fun r _=>∃ l m,r= .tuple #[.agg l.toArray,.bool m]∧Arr5 l:=by
 refine Runs.of Kok (Does.intro rfl Ye Tryz.func119 rfl ?_)
 obtain ⟨w1,e1,x1,hs1,g1⟩:=lay1 h (.cells [.slice none 0 0,.bool false,.slice none 0 0,.slice none 0 0,.bool false] 5)
 have hg1:w1.get b=_:=(x1.2 _ hb).trans hg
 simp +decide only [go_sem,WR,WS,e1]
 refine Zaa Kok x1.1 (count_one n w1 hg1 h0 hn) fun r w2 x2 hr=> ?_
 subst hr
 have hg2:w2.get b=_:=(x2.2 _ Ya).trans hg1
 have x12:=x1.trans x2
 simp +decide only [go_sem,WR,WS]
 refine Zaa Kok x12.1 (Znq w2 (xs:=[.int .i64 (n:Int)]) (.inr (.inr ⟨b,0,_,rfl,by omega,by have:=x12.1;omega,by rw [hg2];rfl,by simp,rfl,.inl ⟨Nat.le_refl _,by simp [big]⟩⟩)) Ya) fun r w3 x3 hr=> ?_
 obtain ⟨a1,n1,c1,rfl⟩:=hr
 have x13:=x12.trans x3
 simp +decide only [go_sem,WR,WS]
 refine Zaa Kok x13.1 (Znp w3 (s.ext x13) Ya) fun r w4 x4 hr=> ?_
 obtain ⟨a2,n2,c2,rfl⟩:=hr
 have g4:w4.get h.size=_:=((x2.trans (x3.trans x4)).2 _ Ya).trans g1
 simp +decide only [go_sem,WR,WS,g4]
 exact ⟨_,_,rfl,_,_,_,_,_,_,_,_,_,_,_,rfl⟩
end Go.Proofs.YtachkofbmodnnaaGreat.N18
namespace Go.Proofs.YtachkofbmodnnaaGreat.N19
open Go Go.Im Go.Im.Limbs Go.Im.Lexing Go.Proofs Go.RowKit Hd N1 N10 N13 N15 N16 N17 N18
set_option maxRecDepth 100000
abbrev XT:Type:=(Nat × Tk) × List Value
def tc4 (t:Nat × Tk):List Value:=[.int .i64 (t.2.kind:Int),.int .i64 (t.1:Int),.string (runesBytes t.2.word),.int .i32 t.2.sign]
def xcs (xs:List XT):List Value:=xs.flatMap fun (x:XT)=>tc4 x.1++x.2
theorem Zgq (xs ys:List XT):xcs (xs++ys)=xcs xs++xcs ys:=by simp [xcs]
theorem ZpO (x:XT):xcs [x]=tc4 x.1++x.2:=by simp [xcs]
def LX (low:Nat) (h:Heap) (xb:Nat) (tv:Value) (at':Nat) (xs:List XT):Prop:=low≤xb∧xb < h.size∧xs.length≤at'∧(∀ x ∈ xs,Arr5 x.2) ∧
 ∃ ov,h.get xb= .cells [tv,.int .i64 (at':Int),ov] 3∧Own low h 9 ov xs.length (xcs xs)∧vblk ov≠some xb
theorem LX.ext {low:Nat} {h w:Heap} {xb:Nat} {tv:Value} {at':Nat} {xs:List XT} (L:LX low h xb tv at' xs) (x:Ext h w):LX low w xb tv at' xs:=by
 obtain ⟨h1,h2,h3,h4,ov,h5,h6,h7⟩:=L
 exact ⟨h1,Nat.lt_of_lt_of_le h2 x.1,h3,h4,ov,(x.2 _ h2).trans h5,h6.ext x,h7⟩
theorem ZbP {h0 h:Heap} (x:Ext h0 h) {xb at' upto:Nat} {tv:Value} {xs:List XT} (L:LX h0.size h xb tv at' xs) (tk:Tk) {a:Option Addr} {n c:Nat} {b:Bool} {a2:Option Addr} {n2 c2:Nat} {a3:Option Addr} {n3 c3:Nat} {m:Bool} {z:Int} (hat:at'≤1000000) (hto:at' < upto) :
  Does K h0.size 95 #[.pointer (some ⟨xb,0,none⟩),.agg #[.int .i64 (tk.kind:Int),.int .i64 z,.string (runesBytes tk.word),.int .i32 tk.sign,.slice a n c,.bool b,.slice a2 n2 c2,.slice a3 n3 c3,.bool m],.int .i64 (upto:Int)] h fun v h'=>v= .bool true∧LX h0.size h' xb tv upto (xs++[((at',tk),[.slice a n c,.bool b,.slice a2 n2 c2,.slice a3 n3 c3,.bool m])]):=by
 obtain ⟨hl,hb,hbd,hall,ov,hg,own,hv⟩:=L
 refine Does.intro rfl Ye Tryz.func95 rfl ?_
 obtain ⟨w1,e1,x1,hs1,g1⟩:=lay1 h (.cells [.int .i64 (tk.kind:Int),.int .i64 z,.string (runesBytes tk.word),.int .i32 tk.sign,.slice a n c,.bool b,.slice a2 n2 c2,.slice a3 n3 c3,.bool m] 9)
 have hg1:w1.get xb=_:=(x1.2 _ hb).trans hg
 obtain ⟨w2,e2,x2,hs2,g2,k2⟩:=put1 x1 (Nat.le_refl _) (.cells [.int .i64 (tk.kind:Int),.int .i64 (at':Int),.string (runesBytes tk.word),.int .i32 tk.sign,.slice a n c,.bool b,.slice a2 n2 c2,.slice a3 n3 c3,.bool m] 9)
 have hg2:w2.get xb=_:=(k2 _ Ya).trans hg1
 have k1:=x.1
 obtain ⟨w3,e3,x3,hs3,g3⟩:=lay1 w2 (.cells [.int .i64 (tk.kind:Int),.int .i64 (at':Int),.string (runesBytes tk.word),.int .i32 tk.sign,.slice a n c,.bool b,.slice a2 n2 c2,.slice a3 n3 c3,.bool m] 9)
 have x03:=x.trans (x2.trans x3)
 have own3:=own.ext (x2.trans x3)
 have hg3:w3.get xb=_:=(x3.2 _ Ya).trans hg2
 obtain ⟨w4,e4,own4,hs4,k4⟩:=ZdC (bytes:=128) (k:=1) (new:=[.int .i64 (tk.kind:Int),.int .i64 (at':Int),.string (runesBytes tk.word),.int .i32 tk.sign,.slice a n c,.bool b,.slice a2 n2 c2,.slice a3 n3 c3,.bool m]) own3 x03.1 Ya Ya rfl Ya Ya
 have hg4:w4.get xb=_:=(k4 _ Ya hv).trans hg3
 have x04:Ext h0 w4:=by
  refine ⟨by have:=x03.1;omega,fun q hq=> ?_⟩
  rw [k4 q (by have:=x03.1;omega) ?_,x03.2 q hq]
  rcases own with ⟨rfl,_⟩ | ⟨b',rfl,h5,_⟩
  ·simp [vblk]
  ·simp only [vblk,ne_eq,Option.some.injEq]
   omega
 obtain ⟨w5,e5,x5,hs5,g5,k5⟩:=put1 x04 hl (.cells [tv,.int .i64 (at':Int),.slice (some ⟨w3.size,0,none⟩) (xs.length+1) big] 3)
 obtain ⟨w6,e6,x6,hs6,g6,k6⟩:=put1 x5 hl (.cells [tv,.int .i64 (upto:Int),.slice (some ⟨w3.size,0,none⟩) (xs.length+1) big] 3)
 simp +decide only [go_sem,WR,WS,e1,hg1,g1,k1,e2,hg2,g2,e3,g3,e4,hg4,hl,e5,g5,e6]
 refine ⟨hl,by omega,by simp;exact Nat.lt_of_le_of_lt hbd hto,fun y hy=> ?_,_,g6,?_,?_⟩
 ·rcases List.mem_append.1 hy with hy | hy
  ·exact hall y hy
  ·rw [List.mem_singleton] at hy
   rw [hy]
   exact ⟨_,_,_,_,_,_,_,_,_,_,_,rfl⟩
 ·rw [Zgq,ZpO,List.length_append,List.length_singleton]
  refine own4.keep (Nat.le_refl _) fun q hq hvq=> ?_
  simp only [vblk,Option.some.injEq] at hvq
  exact ⟨(k6 q Ya).trans (k5 q Ya),by omega⟩
 ·simp only [vblk,ne_eq,Option.some.injEq]
  omega
end Go.Proofs.YtachkofbmodnnaaGreat.N19
namespace Go.Proofs.YtachkofbmodnnaaGreat.R2
open Go Go.Im Go.Im.Limbs Go.Im.Dec Go.Proofs Go.RowKit Hd N12 N18 N19 R1
set_option maxRecDepth 100000
theorem ZjS {a b i d bw bw' V:Nat} (hv:V+b%10 ^ i=a%10 ^ i+bw*10 ^ i) (hd:d+b / 10 ^ i%10+bw=a / 10 ^ i%10+10*bw') :
  V+d*10 ^ i+b%10 ^ (i+1)=a%10 ^ (i+1)+bw'*10 ^ (i+1):=by
 rw [Zd6,Zd6,Nat.pow_succ]
 generalize a / 10 ^ i%10=x at *
 generalize b / 10 ^ i%10=y at *
 generalize a%10 ^ i=u at *
 generalize b%10 ^ i=v at *
 generalize 10 ^ i=P at *
 grind
theorem Znz {low:Nat} {h w:Heap} (hlow:low≤h.size) (x:Ext h w) {n d:Nat} {v:Value} {l:List Nat} (H:Own h.size w 1 v n (iv l)) (hn:n≤1000000) :
  ∃ w',iapp low w 1 8 v 1 (some [.int .i64 (d:Int)])=some (.slice (some ⟨w.size,0,none⟩) (n+1) big,w')∧Own h.size w' 1 (.slice (some ⟨w.size,0,none⟩) (n+1) big) (n+1) (iv (l++[d]))∧w'.size=w.size+1∧Ext h w':=by
 have:=Zbu (low:=low) (bytes:=8) (k:=1) (new:=[.int .i64 (d:Int)]) hlow x H Ya Ya Yn Ya Ya
 rw [ZmH]
 exact this
theorem ZpX (a b:Nat) (h:Heap) (hba:b≤a) (hl:(ds a).length≤900000):Runs K 187 #[.string (text (ds a)),.string (text (ds b))] h fun r _=>r= .string (text (ds (a - b))):=by
 refine Runs.of Kok (Does.intro rfl Ye Tryz.func187 rfl ?_)
 have hlb:=ZeS hba
 simp +decide only [go_sem,WR,WS]
 refine Zah (α:=Nat × List Nat × Nat × Value) (fun k e w=>k.1≤(ds a).length∧e.size=34∧Ext h w∧e.get 0= .string (text (ds a))∧e.get 1= .string (text (ds b))∧e.get 5=k.2.2.2∧Own h.size w 1 k.2.2.2 k.1 (iv k.2.1) ∧
  e.get 6= .int .i64 (k.2.2.1:Int)∧e.get 7= .int .i64 (k.1:Int)∧k.2.1.length=k.1∧(∀ d ∈ k.2.1,d≤9)∧k.2.2.1≤1∧v10 k.2.1+b%10 ^ k.1=a%10 ^ k.1+k.2.2.1*10 ^ k.1) (fun k=>(ds a).length - k.1) (0,[],0,.slice none 0 0) ?_ ?_
 ·exact ⟨Nat.zero_le _,Yc,Ext.refl h,Yc,Yc,Yc,Own.nil _ _ _,by simp +decide only [go_sem];rfl,by simp +decide only [go_sem];rfl,rfl,by simp,by simp,by simp [v10,Nat.mod_one]⟩
 ·rintro ⟨i,l,bw,v⟩ e w ⟨hi,hsz,hxw,e0,e1,e5,own,e6,e7,hll,hl9,hbw,hval⟩ next
  simp only at hi e5 own e6 e7 hll hl9 hbw hval
  by_cases hc:(i:Int) < (((ds a).length:Nat):Int)
  ·simp +decide only [go_sem,WR,WS,hsz,e0,e1,e5,e6,e7,hc]
   refine Zaa Kok hxw.1 (Za3 (ds a) i w (ZbE a) Ya) fun r w1 x1 hr=> ?_
   subst hr
   simp +decide only [go_sem,WR,WS,hsz,e0,e1,e5,e6,e7]
   refine Zaa Kok (hxw.trans x1).1 (Za3 (ds b) i w1 (ZbE b) Ya) fun r w2 x2 hr=> ?_
   subst hr
   rw [ZgX,ZgX]
   have p1:a / 10 ^ i%10≤9:=Ya
   have p2:b / 10 ^ i%10≤9:=Ya
   have own2:=(own.ext x1).ext x2
   have x02:=hxw.trans (x1.trans x2)
   have i1:IntKind.i64.wrap ((i:Int)+1)=((i+1:Nat):Int):=Yd
   by_cases hneg:a / 10 ^ i%10 < b / 10 ^ i%10+bw
   ·obtain ⟨d,hd⟩:∃ d,d=a / 10 ^ i%10+10 - (b / 10 ^ i%10+bw):=⟨_,rfl⟩
    have j1:IntKind.i64.wrap (IntKind.i64.wrap (((a / 10 ^ i%10:Nat):Int) - ((b / 10 ^ i%10:Nat):Int)) - (bw:Int))=(d:Int) - 10:=YM
    have j2:(d:Int) - 10 < 0:=Ya
    have j3:IntKind.i64.wrap ((d:Int) - 10+10)=(d:Int):=Yd
    obtain ⟨w3,e3,x3,hs3,g3⟩:=lay1 w2 (.cells [.int .i64 (d:Int)] 1)
    obtain ⟨w4,e4,own4,hs4,x4⟩:=Znz (low:=h.size) (d:=d) (Nat.le_refl _) (x02.trans x3) (own2.ext x3) Ya
    simp +decide only [go_sem,WR,WS,hsz,e0,e1,e5,e6,e7,j1,j2,j3,e3,g3,e4,i1]
    refine next (i+1,l++[d],1,_) _ _ ⟨by simp only;omega,Yb,x4,Yf,Yk,Yb,own4,by simp +decide only [go_sem,hsz];rfl,Yb,by simp [hll],?_,Nat.le_refl _,?_⟩ Yj
    ·intro x hx
     rcases List.mem_append.1 hx with hx | hx
     ·exact hl9 x hx
     ·rw [List.mem_singleton] at hx;omega
    ·simp only
     rw [ZjK,hll]
     exact ZjS hval Ya
   ·obtain ⟨d,hd⟩:∃ d,d=a / 10 ^ i%10 - (b / 10 ^ i%10+bw):=⟨_,rfl⟩
    have j1:IntKind.i64.wrap (IntKind.i64.wrap (((a / 10 ^ i%10:Nat):Int) - ((b / 10 ^ i%10:Nat):Int)) - (bw:Int))=(d:Int):=YM
    have j2:¬ (d:Int) < 0:=Ya
    obtain ⟨w3,e3,x3,hs3,g3⟩:=lay1 w2 (.cells [.int .i64 (d:Int)] 1)
    obtain ⟨w4,e4,own4,hs4,x4⟩:=Znz (low:=h.size) (d:=d) (Nat.le_refl _) (x02.trans x3) (own2.ext x3) Ya
    simp +decide only [go_sem,WR,WS,hsz,e0,e1,e5,e6,e7,j1,j2,e3,g3,e4,i1]
    refine next (i+1,l++[d],0,_) _ _ ⟨by simp only;omega,Yb,x4,Yf,Yk,Yb,own4,by simp +decide only [go_sem,hsz];rfl,Yb,by simp [hll],?_,Nat.zero_le _,?_⟩ Yj
    ·intro x hx
     rcases List.mem_append.1 hx with hx | hx
     ·exact hl9 x hx
     ·rw [List.mem_singleton] at hx;omega
    ·simp only
     rw [ZjK,hll]
     exact ZjS hval Ya
  ·have hii:i=(ds a).length:=by omega
   obtain ⟨ad,c,rfl⟩:=own.shape
   simp +decide only [go_sem,WR,WS,hsz,e0,e1,e5,e6,e7,hc]
   refine Zaa Kok hxw.1 (Zgr l w own.sl hl9 Ya) fun r w1 x1 hr=> ?_
   subst hr
   have m1:a%10 ^ i=a:=Zd7 Ya
   have m2:b%10 ^ i=b:=Zd7 Ya
   have m3:=Zo3 hl9
   rw [hll] at m3
   rw [m1,m2] at hval
   have hb0:bw=0:=by
    rcases Nat.eq_zero_or_pos bw with h0 | h0
    ·exact h0
    ·have:bw=1:=by omega
     subst this
     omega
   subst hb0
   have hfin:v10 l=a - b:=Ya
   simp +decide only [go_sem,WR,WS,hsz,hfin]
theorem Zhg {os:List Nat} {b i j p o cy V:Nat} (ho:os[i+j]? =some o) (hv:v10 os+cy*10 ^ (i+j)=V+p*(b%10 ^ j)*10 ^ i) :
  v10 (os.set (i+j) ((o+p*(b / 10 ^ j%10)+cy)%10))+(o+p*(b / 10 ^ j%10)+cy) / 10*10 ^ (i+(j+1))=V+p*(b%10 ^ (j+1))*10 ^ i:=by
 have h1:=Zlt ((o+p*(b / 10 ^ j%10)+cy)%10) ho
 rw [Zd6]
 generalize b / 10 ^ j%10=q at *
 generalize hS:v10 (os.set (i+j) ((o+p*q+cy)%10))=S at *
 generalize b%10 ^ j=r at *
 have h2:(o+p*q+cy)%10+10*((o+p*q+cy) / 10)=o+p*q+cy:=Nat.mod_add_div _ _
 rw [show i+(j+1)=(i+j)+1 by omega,Nat.pow_succ]
 rw [Nat.pow_add] at *
 generalize (o+p*q+cy)%10=d at *
 generalize (o+p*q+cy) / 10=c at *
 generalize 10 ^ i=P at *
 generalize 10 ^ j=Q at *
 generalize v10 os=T at *
 have h3:=congrArg (·*(P*Q)) h2
 simp only [Nat.add_mul] at h3
 have e1:c*(P*Q*10)=10*c*(P*Q):=by rw [Nat.mul_comm (P*Q) 10,← Nat.mul_assoc,Nat.mul_comm c 10]
 have e2:p*(r+q*Q)*P=p*r*P+p*q*(P*Q):=by
  rw [Nat.mul_add,Nat.add_mul,← Nat.mul_assoc,Nat.mul_comm P Q,Nat.mul_assoc (p*q) Q P]
 rw [e1,e2]
 omega
theorem Zmp {sz N:Nat} (h:N≤1099511627776):imk sz 1 8 [.int .i64 0] (N:Int) (N:Int)=some (.slice (some ⟨sz,0,none⟩) N N,some (.cells (iv (List.replicate N 0)) 1)):=by
 rw [Ziw Ya Ya Ya Ya]
 simp [iv,List.flatten_replicate_singleton]
theorem Zsr {l:List Nat} {k:Nat} (h:k < l.length) (d:Nat):(iv l).take k++[.int .i64 (d:Int)]++(iv l).drop (k+1)=iv (l.set k d):=by
 rw [Zl8 (by rw [Zef];exact h),Zsq]
theorem ZfW (a b:Nat) (h:Heap) (hla:(ds a).length≤200000) (hlb:(ds b).length≤200000):Runs K 181 #[.string (text (ds a)),.string (text (ds b))] h fun r _=>r= .string (text (ds (a*b))):=by
 refine Runs.of Kok (Does.intro rfl Ye Tryz.func181 rfl ?_)
 obtain ⟨la,hla'⟩:∃ la,la=(ds a).length:=⟨_,rfl⟩
 obtain ⟨lb,hlb'⟩:∃ lb,lb=(ds b).length:=⟨_,rfl⟩
 have i1:IntKind.i64.wrap (IntKind.i64.wrap ((la:Int)+(lb:Int))+1)=((la+lb+1:Nat):Int):=by rw [wrap_i64 (x:=(la:Int)+(lb:Int)) Ya Ya,wrap_i64 Ya Ya];omega
 have m1:=Zmp (sz:=h.size) (N:=la+lb+1) Ya
 obtain ⟨w1,e1',x1,hs1,g1⟩:=lay1 h (.cells (iv (List.replicate (la+lb+1) 0)) 1)
 have halt:a < 10 ^ la:=by rw [hla'];exact ZbJ a
 have hblt:b < 10 ^ lb:=by rw [hlb'];exact ZbJ b
 simp +decide only [go_sem,WR,WS,← hla',← hlb',i1,m1,e1']
 refine Zah (α:=Nat × List Nat) (fun k e w=>k.1≤la∧e.size=60∧Ext h w∧h.size < w.size∧e.get 0= .string (text (ds a))∧e.get 1= .string (text (ds b))∧e.get 5= .slice (some ⟨h.size,0,none⟩) (la+lb+1) (la+lb+1) ∧
  e.get 6= .int .i64 (k.1:Int)∧w.get h.size= .cells (iv k.2) 1∧k.2.length=la+lb+1∧(∀ d ∈ k.2,d≤9)∧v10 k.2=a%10 ^ k.1*b) (fun k=>la - k.1) (0,List.replicate (la+lb+1) 0) ?_ ?_
 ·refine ⟨Nat.zero_le _,Yc,x1,by omega,Yc,Yc,Yc,by simp +decide only [go_sem];rfl,g1,by simp,?_,by simp [ZjJ,Nat.mod_one]⟩
  intro d hd
  have:=List.eq_of_mem_replicate hd
  omega
 ·rintro ⟨i,os⟩ e w ⟨hi,hsz,hxw,hws,e0,e1,e5,e6,gw,hol,ho9,hval⟩ next
  simp only at hi e6 gw hol ho9 hval
  by_cases hc:(i:Int) < (la:Int)
  ·obtain ⟨p,hp⟩:∃ p,p=a / 10 ^ i%10:=⟨_,rfl⟩
   have hp9:p≤9:=Ya
   simp +decide only [go_sem,WR,WS,← hla',← hlb',hsz,e0,e1,e5,e6,hc]
   refine Zah (α:=Nat × List Nat × Nat) (fun k e w=>e.size=60∧Ext h w∧h.size < w.size∧e.get 0= .string (text (ds a))∧e.get 1= .string (text (ds b))∧e.get 5= .slice (some ⟨h.size,0,none⟩) (la+lb+1) (la+lb+1) ∧
    e.get 6= .int .i64 (i:Int)∧e.get 7= .int .i64 (k.2.2:Int)∧e.get 8= .int .i64 (k.1:Int)∧w.get h.size= .cells (iv k.2.1) 1∧k.2.1.length=la+lb+1∧(∀ d ∈ k.2.1,d≤9)∧k.2.2≤9∧k.1≤la+lb+1 ∧
    v10 k.2.1+k.2.2*10 ^ (i+k.1)=a%10 ^ i*b+p*(b%10 ^ k.1)*10 ^ i) (fun k=>la+lb+1 - k.1) (0,os,0) ?_ ?_
   ·exact ⟨Yb,hxw,hws,Yf,Yk,Yo,Ym,by simp +decide only [go_sem,hsz];rfl,by simp +decide only [go_sem,hsz];rfl,gw,hol,ho9,by simp,by simp,by simp [hval,Nat.mod_one]⟩
   ·rintro ⟨j,os2,cy⟩ e2 w2 ⟨hsz,hxw,hws,e0,e1,e5,e6,e7,e8,gw,hol,ho9,hcy,hjl,hval⟩ next2
    simp only at e7 e8 gw hol ho9 hcy hjl hval
    by_cases hfin:lb≤j∧cy=0
    ·obtain ⟨hlbj,rfl⟩:=hfin
     have q1:¬ (j:Int) < (lb:Int):=Ya
     have q2:¬ (0:Int) < ((0:Nat):Int):=Ya
     have i2:IntKind.i64.wrap ((i:Int)+1)=((i+1:Nat):Int):=Yd
     simp +decide only [go_sem,WR,WS,← hla',← hlb',hsz,e0,e1,e5,e6,e7,e8,q1,q2,i2]
     refine next (i+1,os2) _ _ ⟨by simp only;omega,Yb,hxw,hws,Yf,Yk,Yo,Yb,gw,hol,ho9,?_⟩ Yj
     simp only
     have hbm:b%10 ^ j=b:=Zd7 Ya
     rw [hbm,Nat.zero_mul,Nat.add_zero] at hval
     rw [hval,Zd6,← hp,Nat.add_mul,Nat.mul_assoc,Nat.mul_assoc,Nat.mul_comm b]
    ·obtain ⟨q,hq⟩:∃ q,q=b / 10 ^ j%10:=⟨_,rfl⟩
     have hq9:q≤9:=Ya
     have hij:i+j < la+lb:=by
      by_cases hjb:j < lb
      ·omega
      ·have hcy1:1≤cy:=by omega
       have hbm:b%10 ^ j=b:=Zd7 Ya
       rw [hbm] at hval
       have t1:a%10 ^ i*b+p*b*10 ^ i=a%10 ^ (i+1)*b:=by rw [Zd6,← hp,Nat.add_mul,Nat.mul_assoc,Nat.mul_assoc,Nat.mul_comm b]
       have t2:a%10 ^ (i+1)*b≤a*b:=Nat.mul_le_mul_right _ (Nat.mod_le _ _)
       have t3:a*b < 10 ^ (la+lb):=by rw [Nat.pow_add];exact Nat.mul_lt_mul_of_lt_of_lt halt hblt
       have t4:1*10 ^ (i+j)≤cy*10 ^ (i+j):=Nat.mul_le_mul_right _ hcy1
       exact (Nat.pow_lt_pow_iff_right (a:=10) Ya).1 Ya
     obtain ⟨o,ho⟩:∃ o,os2[i+j]? =some o:=⟨_,List.getElem?_eq_getElem Ya⟩
     have ho':=ho9 o (List.mem_of_getElem? ho)
     have hpq:p*q≤81:=Nat.mul_le_mul hp9 hq9
     have j1:IntKind.i64.wrap ((i:Int)+(j:Int))=((i+j:Nat):Int):=Yd
     have j2:(0:Int)≤((i+j:Nat):Int):=Ya
     have j3:((i+j:Nat):Int) < ((la+lb+1:Nat):Int):=Ya
     have j4:IntKind.i64.wrap ((p:Int)*(q:Int))=((p*q:Nat):Int):=by rw [← Int.natCast_mul,wrap_i64 Ya Ya]
     have j5:IntKind.i64.wrap (IntKind.i64.wrap ((o:Int)+((p*q:Nat):Int))+(cy:Int))=((o+p*q+cy:Nat):Int):=by
      rw [wrap_i64 (x:=(o:Int)+((p*q:Nat):Int)) Ya Ya,wrap_i64 Ya Ya]
      omega
     obtain ⟨t,ht⟩:∃ t,t=o+p*q+cy:=⟨_,rfl⟩
     have j6:((t:Nat):Int).tmod 10=((t%10:Nat):Int):=by rw [Int.tmod_eq_emod_of_nonneg Ya];omega
     have j7:IntKind.i64.wrap (((t:Nat):Int).tdiv 10)=((t / 10:Nat):Int):=by rw [Int.tdiv_eq_ediv_of_nonneg Ya,wrap_i64 Ya Ya];omega
     have j8:IntKind.i64.wrap ((j:Int)+1)=((j+1:Nat):Int):=Yd
     have j9:¬ (10:Int)=0:=Ya
     have j10:h.size≤h.size:=Nat.le_refl _
     have k1:i+j+1≤(iv os2).length:=by rw [Zef];omega
     have hput:=Zsr (l:=os2) (k:=i+j) Ya (t%10)
     have hcond:∀ (X:Prop),(((j:Int) < (lb:Int))→X)→(¬ ((j:Int) < (lb:Int))→(0:Int) < (cy:Int)→X)→X:=by
      intro X a1 a2
      by_cases hh:(j:Int) < (lb:Int)
      ·exact a1 hh
      ·exact a2 hh Ya
     have hset:∀ d ∈ os2.set (i+j) (t%10),d≤9:=by
      intro d hd
      rcases List.mem_or_eq_of_mem_set hd with hd | hd
      ·exact ho9 d hd
      ·omega
     have hstep:=Zhg (p:=p) ho hval
     rw [← hq,← ht] at hstep
     refine hcond _ (fun c1=> ?_) (fun c1 c2=> ?_)
     ·simp +decide only [go_sem,WR,WS,← hla',← hlb',hsz,e0,e1,e5,e6,e7,e8,c1,j1,j2,j3,gw,ZmG ho,Nat.mul_one,Nat.zero_add,Int.toNat_natCast]
      refine Zaa Kok hxw.1 (Za3 (ds a) i w2 (ZbE a) Ya) fun r w3 x3 hr=> ?_
      subst hr
      rw [ZgX,← hp]
      simp +decide only [go_sem,WR,WS,hsz,e0,e1,e5,e6,e7,e8]
      refine Zaa Kok (hxw.trans x3).1 (Za3 (ds b) j w3 (ZbE b) Ya) fun r w4 x4 hr=> ?_
      subst hr
      rw [ZgX,← hq]
      have gw4:w4.get h.size= .cells (iv os2) 1:=((x3.trans x4).2 _ hws).trans gw
      obtain ⟨w5,e5',x5,hs5,g5,k5⟩:=put1 (hxw.trans (x3.trans x4)) (Nat.le_refl _) (.cells (iv (os2.set (i+j) (t%10))) 1)
      simp +decide only [go_sem,WR,WS,hsz,e0,e1,e5,e6,e7,e8,j1,j2,j3,j4,j5,← ht,j6,j7,j8,j9,j10,gw4,k1,Nat.mul_one,Nat.zero_add,Int.toNat_natCast,hput,e5']
      have:=(x3.trans x4).1
      exact next2 (j+1,os2.set (i+j) (t%10),t / 10) _ _ ⟨Yb,x5,by omega,Yf,Yk,Yo,Ym,Yb,Yb,g5,by simp [hol],hset,by simp only;omega,by simp only;omega,hstep⟩ Yj
     ·simp +decide only [go_sem,WR,WS,← hla',← hlb',hsz,e0,e1,e5,e6,e7,e8,c1,c2,j1,j2,j3,gw,ZmG ho,Nat.mul_one,Nat.zero_add,Int.toNat_natCast]
      refine Zaa Kok hxw.1 (Za3 (ds a) i w2 (ZbE a) Ya) fun r w3 x3 hr=> ?_
      subst hr
      rw [ZgX,← hp]
      simp +decide only [go_sem,WR,WS,hsz,e0,e1,e5,e6,e7,e8]
      refine Zaa Kok (hxw.trans x3).1 (Za3 (ds b) j w3 (ZbE b) Ya) fun r w4 x4 hr=> ?_
      subst hr
      rw [ZgX,← hq]
      have gw4:w4.get h.size= .cells (iv os2) 1:=((x3.trans x4).2 _ hws).trans gw
      obtain ⟨w5,e5',x5,hs5,g5,k5⟩:=put1 (hxw.trans (x3.trans x4)) (Nat.le_refl _) (.cells (iv (os2.set (i+j) (t%10))) 1)
      simp +decide only [go_sem,WR,WS,hsz,e0,e1,e5,e6,e7,e8,j1,j2,j3,j4,j5,← ht,j6,j7,j8,j9,j10,gw4,k1,Nat.mul_one,Nat.zero_add,Int.toNat_natCast,hput,e5']
      have:=(x3.trans x4).1
      exact next2 (j+1,os2.set (i+j) (t%10),t / 10) _ _ ⟨Yb,x5,by omega,Yf,Yk,Yo,Ym,Yb,Yb,g5,by simp [hol],hset,by simp only;omega,by simp only;omega,hstep⟩ Yj
  ·have hii:i=la:=by omega
   simp +decide only [go_sem,WR,WS,← hla',← hlb',hsz,e0,e1,e5,e6,hc]
   refine Zaa Kok hxw.1 (Zgr os w (a:=some ⟨h.size,0,none⟩) (n:=la+lb+1) (c:=la+lb+1) (Sl.made hws gw (by rw [Zef];omega) YC) ho9 Ya) fun r w1 x1 hr=> ?_
   subst hr
   have m1:a%10 ^ i=a:=Zd7 Ya
   rw [m1] at hval
   simp +decide only [go_sem,WR,WS,hsz,hval]
end Go.Proofs.YtachkofbmodnnaaGreat.R2
namespace Go.Proofs.YtachkofbmodnnaaGreat.R3
open Go Go.Im Go.Im.Limbs Go.Im.Dec Go.Proofs Go.RowKit Hd N12 R1 R2
set_option maxRecDepth 100000
theorem Zob {p B d n:Nat} (hB:0 < B) (h1:n*B≤p%B*10+d) (h2:p%B*10+d - n*B < B):(p*10+d) / B=p / B*10+n∧(p*10+d)%B=p%B*10+d - n*B:=by
 have e1:p*10+d=(p%B*10+d - n*B)+B*(p / B*10+n):=by
  have e2:=Nat.mod_add_div p B
  have e3:B*(p / B*10+n)=10*(B*(p / B))+n*B:=by rw [Nat.mul_add,Nat.mul_comm n B,← Nat.mul_assoc,Nat.mul_comm _ 10]
  rw [e3]
  omega
 rw [e1]
 constructor
 ·rw [Nat.add_mul_div_left _ _ hB,Nat.div_eq_of_lt h2,Nat.zero_add]
 ·rw [Nat.add_mul_mod_self_left,Nat.mod_eq_of_lt h2]
theorem Zbp (A B:Nat) (h:Heap) (hB:B≠0) (hla:(ds A).length≤200000) (hlb:(ds B).length≤200000) :
  Runs K 180 #[.string (text (ds A)),.string (text (ds B))] h fun r _=>r= .tuple #[.string (text (ds (A / B))),.string (text (ds (A%B)))]:=by
 refine Runs.of Kok (Does.intro rfl Ye Tryz.func180 rfl ?_)
 obtain ⟨la,hla'⟩:∃ la,la=(ds A).length:=⟨_,rfl⟩
 have hB0:0 < B:=Nat.pos_of_ne_zero hB
 have hBlt:=ZbJ B
 have hlb1:=Zkq B
 have m1:imk h.size 1 1 [.int .u8 0] 0 (la:Int)=some (.slice (some ⟨h.size,0,none⟩) 0 la,some (.cells (List.replicate la (.int .u8 0)) 1)):=by
  rw [Ziw Ya Ya Ya Ya]
  simp [List.flatten_replicate_singleton]
 obtain ⟨w1,e1',x1,hs1,g1⟩:=lay1 h (.cells (List.replicate la (.int .u8 0)) 1)
 simp +decide only [go_sem,WR,WS,← hla',m1,e1']
 refine Zah (α:=Nat × List UInt8) (fun k e w=>k.1≤la∧e.size=50∧Ext h w∧h.size < w.size∧e.get 0= .string (text (ds A))∧e.get 1= .string (text (ds B))∧e.get 6= .slice (some ⟨h.size,0,none⟩) k.1 la ∧
  e.get 7= .string (text (ds (dec ((ds A).take k.1)%B)))∧e.get 8= .int .i64 (k.1:Int)∧w.get h.size= .cells (byteCells k.2++List.replicate (la - k.1) (.int .u8 0)) 1∧k.2.length=k.1∧Digs k.2∧dec k.2=dec ((ds A).take k.1) / B) (fun k=>la - k.1) (0,[]) ?_ ?_
 ·refine ⟨Nat.zero_le _,Yc,x1,by omega,Yc,Yc,Yc,?_,by simp +decide only [go_sem];rfl,by simp [g1,byteCells],rfl,fun b hb=>by simp at hb,by simp [ZdM]⟩
  simp +decide only [go_sem,WR,WS,List.take_zero,ZdM,Nat.zero_mod,ZdJ]
  rfl
 ·rintro ⟨i,q⟩ e w ⟨hi,hsz,hxw,hws,e0,e1,e6,e7,e8,gw,hql,hqd,hqv⟩ next
  simp only at hi e6 e7 e8 gw hql hqd hqv
  obtain ⟨p,hp⟩:∃ p,p=dec ((ds A).take i):=⟨_,rfl⟩
  rw [← hp] at e7 hqv
  by_cases hc:(i:Int) < (la:Int)
  ·obtain ⟨c,hcd⟩:∃ c,(ds A)[i]? =some c:=⟨_,List.getElem?_eq_getElem Ya⟩
   have hcr:=ZbE A c (List.mem_of_getElem? hcd)
   obtain ⟨hil,hcg⟩:=List.getElem?_eq_some_iff.1 hcd
   have htk:(ds A).take (i+1)=(ds A).take i++[c]:=by rw [List.take_succ_eq_append_getElem hil,hcg]
   have hp':dec ((ds A).take (i+1))=p*10+(c.toNat - 48):=by rw [htk,Zbx,← hp]
   obtain ⟨d,hd⟩:∃ d,d=c.toNat - 48:=⟨_,rfl⟩
   have hd9:d≤9:=Ya
   rw [← hd] at hp'
   have hpm:=Nat.mod_lt p hB0
   have hdl:(ds (p%B)).length≤(ds B).length:=ZeS Ya
   have hcat:∀ t,Zaj Tryz.prog .add t (.string (text (ds (p%B)))) (.string (text [c]))=some (.string (text (ds (p%B)++[c]))):=fun t=>Zb1 Yl
   have f1:(0:Int)≤(i:Int):=Ya
   have f2:(0:Int)≤((i+1:Nat):Int):=Ya
   have f3:i≤i+1:=Ya
   have f4:i+1≤la:=Ya
   have f5:((ds A).drop i).take (i+1 - i)=[c]:=by
    rw [List.drop_eq_getElem_cons hil,hcg,show i+1 - i=1 by omega]
    rfl
   have i1:IntKind.i64.wrap ((i:Int)+1)=((i+1:Nat):Int):=Yd
   simp +decide only [go_sem,WR,WS,← hla',hsz,e0,e1,e6,e7,e8,hc,i1,f1,f2,f3,f4,f5,Int.toNat_natCast,hcat]
   have hdg:Digs (ds (p%B)++[c]):=by
    intro b hb
    rcases List.mem_append.1 hb with hb | hb
    ·exact ZbE _ b hb
    ·rw [List.mem_singleton] at hb
     subst hb
     exact hcr
   refine Zaa Kok hxw.1 (Zdu hdg Yp w Yl) fun r w2 x2 hr=> ?_
   subst hr
   rw [Zbx,Zeo,← hd]
   obtain ⟨R,hR⟩:∃ R,R=p%B*10+d:=⟨_,rfl⟩
   rw [← hR]
   have hRB:R < 10*B:=Ya
   have hRl:(ds R).length≤(ds B).length+1:=by
    refine Zkr ?_ Ya
    rw [Nat.pow_succ]
    omega
   simp +decide only [go_sem,WR,WS,hsz,e0,e1,e6,e7,e8]
   refine Zah (α:=Nat) (fun n e' w'=>n*B≤R∧e'.size=50∧Ext w2 w'∧e'.get 0= .string (text (ds A))∧e'.get 1= .string (text (ds B))∧e'.get 6= .slice (some ⟨h.size,0,none⟩) i la ∧
    e'.get 7= .string (text (ds (R - n*B)))∧e'.get 8= .int .i64 (i:Int)∧e'.get 9= .int .i64 (n:Int)) (fun n=>R - n*B) 0 ?_ ?_
   ·exact ⟨by simp,Yb,Ext.refl _,Yf,Yk,Ym,by simp +decide only [go_sem,hsz,Nat.zero_mul,Nat.sub_zero],Yu,by simp +decide only [go_sem,hsz];rfl⟩
   ·rintro n e' w' ⟨hn,hsz,hx2,e0,e1,e6,e7,e8,e9⟩ next2
    have hx0:=hxw.trans (x2.trans hx2)
    have hn10:n < 10:=by
     refine Nat.lt_of_not_le fun hh=> ?_
     have:10*B≤n*B:=Nat.mul_le_mul_right _ hh
     omega
    have hn10':(n:Int) < 10:=Ya
    simp +decide only [go_sem,WR,WS,hsz,e0,e1,e6,e7,e8,e9]
    refine Zaa Kok hx0.1 (ZeU (R - n*B) B w') fun r w3 x3 hr=> ?_
    by_cases hlt:R - n*B < B
    ·rw [if_pos hlt] at hr
     subst hr
     obtain ⟨m,hm⟩:∃ m,la - i=m+1:=⟨la - i - 1,by omega⟩
     have hm2:la - (i+1)=m:=Ya
     have gw3:w3.get h.size= .cells (byteCells q++List.replicate (m+1) (.int .u8 0)) 1:=by
      rw [← hm]
      exact ((x2.trans (hx2.trans x3)).2 _ hws).trans gw
     obtain ⟨w4,e4',x4,hs4,g4⟩:=lay1 w3 (.cells [.int .u8 ((48+n:Nat):Int)] 1)
     have hx3:=hx0.trans x3
     have hws3:h.size < w3.size:=by have:=(x2.trans (hx2.trans x3)).1;omega
     have gw4:w4.get h.size=_:=(x4.2 _ hws3).trans gw3
     have hroom:=Ziz (low:=h.size) (bytes:=1) (o:=0) (n:=i) (k:=1) (cap:=la) (new:=[.int .u8 ((48+n:Nat):Int)]) gw4 (Nat.le_refl _) Ya Ya Ya YC Y9
     have hsp:splice (byteCells q++List.replicate (m+1) (.int .u8 0)) (0+i*1) [.int .u8 ((48+n:Nat):Int)]=byteCells (q++[UInt8.ofNat (48+n)])++List.replicate m (.int .u8 0):=by
      have e1:=ZfK (xs:=q) (z:= .int .u8 0) (k:=m) (x:=UInt8.ofNat (48+n))
      rw [of48 Ya,hql] at e1
      rw [Nat.zero_add,Nat.mul_one]
      exact e1
     rw [hsp] at hroom
     obtain ⟨w5,e5',x5,hs5,g5,k5⟩:=put1 (hx3.trans x4) (Nat.le_refl _) (.cells (byteCells (q++[UInt8.ofNat (48+n)])++List.replicate m (.int .u8 0)) 1)
     have j1:IntKind.i64.wrap (48+(n:Int))=((48+n:Nat):Int):=Yd
     have j2:IntKind.u8.wrap ((48+n:Nat):Int)=((48+n:Nat):Int):=wrap_u8 Ya Ya
     have j3:¬ ((0:Int)≤ -1):=Ya
     simp +decide only [go_sem,WR,WS,hsz,e0,e1,e6,e7,e8,e9,hn10',j1,j2,j3,e4',g4,hroom,e5',i1]
     have hqs:=Zob (p:=p) (d:=d) (n:=n) hB0 Ya Ya
     rw [← hR] at hqs
     refine next (i+1,q++[UInt8.ofNat (48+n)]) _ _ ⟨f4,Yb,x5,by omega,Yf,Yk,Yb,?_,Yb,by rw [hm2];exact g5,by simp [hql],?_,?_⟩ Yj
     ·rw [hp',hqs.2]
      simp +decide only [go_sem,WR,WS,hsz,e7]
     ·intro b hb
      rcases List.mem_append.1 hb with hb | hb
      ·exact hqd b hb
      ·rw [List.mem_singleton] at hb
       subst hb
       rw [of48 Ya]
       omega
     ·simp only
      rw [hp',hqs.1,Zbx,of48 Ya,hqv]
      omega
    ·have hz:∃ z:Int,(if R - n*B < B then (-1:Int) else if R - n*B=B then 0 else 1)=z∧0≤z:=by
      rw [if_neg hlt]
      split
      ·exact ⟨0,rfl,by omega⟩
      ·exact ⟨1,rfl,by omega⟩
     obtain ⟨z,hz1,hz2⟩:=hz
     rw [hz1] at hr
     subst hr
     have i2:IntKind.i64.wrap ((n:Int)+1)=((n+1:Nat):Int):=Yd
     simp +decide only [go_sem,WR,WS,hsz,e0,e1,e6,e7,e8,e9,hz2,hn10']
     have hl3:(ds (R - n*B)).length≤900000:=by
      have:=ZeS (show R - n*B≤R by omega)
      omega
     refine Zaa Kok (hx0.trans x3).1 (ZpX (R - n*B) B w3 Ya hl3) fun r w4 x4 hr=> ?_
     subst hr
     have hs':R - n*B - B=R - (n+1)*B:=by rw [Nat.add_mul,Nat.one_mul];omega
     simp +decide only [go_sem,WR,WS,hsz,e0,e1,e6,e7,e8,e9,i2,hs']
     have hnn:(n+1)*B≤R:=by rw [Nat.add_mul,Nat.one_mul];omega
     refine next2 (n+1) _ _ ⟨hnn,Yb,hx2.trans (x3.trans x4),Yf,Yk,Ym,Yb,Yu,Yb⟩ ?_
     have:(n+1)*B=n*B+B:=by rw [Nat.add_mul,Nat.one_mul]
     omega
  ·have hii:i=la:=by omega
   subst hii
   have hla1:=Zkq A
   have hfull:p=A:=by rw [hp,hla',List.take_length,Zeo]
   rw [hfull] at e7 hqv
   have hisl:isl (.cells (byteCells q++List.replicate (i - i) (.int .u8 0)) 1) 1 0 i=some (byteCells q):=by
    rw [Zin,if_pos ⟨rfl,by simp [byteCells];omega⟩]
    simp only [List.drop_zero,Nat.mul_one]
    rw [Nat.sub_self,List.replicate_zero,List.append_nil,List.take_of_length_le Y9]
   have hrd:(w.get h.size).read= .cells (byteCells q++List.replicate (i - i) (.int .u8 0)) 1:=by rw [gw];rfl
   generalize Blk.cells (byteCells q++List.replicate (i - i) (.int .u8 0)) 1=blk at hisl hrd
   simp +decide only [go_sem,WR,WS,← hla',hsz,e0,e1,e6,e7,e8,hc,hrd,hisl,Zcs]
   refine Zaa Kok hxw.1 (Zdu hqd (fun hh=>by rw [hh] at hql;simp at hql;omega) w Ya) fun r w2 x2 hr=> ?_
   subst hr
   simp +decide only [go_sem,WR,WS,hsz,e7,hqv]
theorem Zrf:(10:Nat) ^ (2900+2900)≤2 ^ 19999:=by decide +kernel
theorem ZuD {y r n:Nat} (h:y < 10 ^ n) (hr:r < y):y*r < 10 ^ (n+n):=by
 rw [Nat.pow_add]
 exact Nat.mul_lt_mul_of_lt_of_lt h (Nat.lt_trans hr h)
theorem Zjy (a b:Nat) (h:Heap) (hla:(ds a).length≤2900) (hlb:(ds b).length≤2900) :
  Runs K 179 #[.string (text (ds a)),.string (text (ds b))] h fun r _=>r= .string (text (ds (Nat.gcd a b))):=by
 refine Runs.of Kok (Does.intro rfl Ye Tryz.func179 rfl ?_)
 simp +decide only [go_sem,WR,WS]
 refine Zah (α:=Nat × Nat × Nat × Nat) (fun k e w=>e.size=25∧Ext h w∧e.get 0= .string (text (ds k.2.1))∧e.get 1= .string (text (ds k.2.2.1))∧e.get 5= .int .i64 (k.1:Int)∧Nat.gcd k.2.1 k.2.2.1=Nat.gcd a b∧(ds k.2.1).length≤2900∧(ds k.2.2.1).length≤2900 ∧
  k.1≤20000∧(k.1=0∨(k.2.2.1 < k.2.1∧k.2.1*k.2.2.1 < 2 ^ k.2.2.2∧k.1+k.2.2.2≤20000))) (fun k=>20000 - k.1) (0,a,b,0) ?_ ?_
 ·exact ⟨Yc,Ext.refl h,Yc,Yc,by simp +decide only [go_sem];rfl,rfl,hla,hlb,by simp,.inl rfl⟩
 ·rintro ⟨i,x,y,m⟩ e w ⟨hsz,hxw,e0,e1,e5,hg,hlx,hly,hi,hm⟩ next
  simp only at e0 e1 e5 hg hlx hly hi hm
  by_cases hy:y=0
  ·subst hy
   rw [Nat.gcd_zero_right] at hg
   rw [ZdJ] at e1
   by_cases hi2:(i:Int) < 20000
   ·simp +decide only [go_sem,WR,WS,hsz,e0,e1,e5,hi2,hg]
   ·simp +decide only [go_sem,WR,WS,hsz,e0,e1,e5,hi2,hg]
  ·have hi2:i < 20000:=by
    rcases hm with h0 | ⟨h1,h2,h3⟩
    ·omega
    ·have:1≤x*y:=Nat.mul_pos Ya Ya
     have hm0:m≠0:=by
      rintro rfl
      simp at h2
      omega
     omega
   have hi3:(i:Int) < 20000:=Ya
   have hyne:¬ text (ds y)=(⟨#[48]⟩:ByteArray):=fun hh=>hy (Znc.1 ((ZdT.1 hh).trans ZdJ.symm))
   have i1:IntKind.i64.wrap ((i:Int)+1)=((i+1:Nat):Int):=Yd
   simp +decide only [go_sem,WR,WS,hsz,e0,e1,e5,hi3,hyne]
   refine Zaa Kok hxw.1 (Zbp x y w hy Ya Ya) fun r w2 x2 hr=> ?_
   subst hr
   have hxy:(ds (x%y)).length≤2900:=by
    have:=ZeS (Nat.le_of_lt (Nat.mod_lt x (Nat.pos_of_ne_zero hy)))
    omega
   simp +decide only [go_sem,WR,WS,hsz,e0,e1,e5,i1]
   refine next (i+1,y,x%y,if i=0 then 19999 else m - 1) _ _ ⟨Yb,hxw.trans x2,Yb,Yb,Yb,?_,hly,hxy,by simp only;omega,.inr ?_⟩ Yj
   ·simp only
    rw [← hg,Nat.gcd_comm x y]
    exact (Nat.gcd_rec y x).symm ▸ Nat.gcd_comm _ _
   ·simp only
    have hml:=Nat.mod_lt x (Nat.pos_of_ne_zero hy)
    refine ⟨hml,?_⟩
    by_cases h0:i=0
    ·rw [if_pos h0]
     exact ⟨Nat.lt_of_lt_of_le (ZuD (Nat.lt_of_lt_of_le (ZbJ y) (Nat.pow_le_pow_right Ya hly)) hml) Zrf,by omega⟩
    ·rw [if_neg h0]
     obtain ⟨h1,h2,h3⟩:=hm.resolve_left h0
     have hm0:m≠0:=by
      rintro rfl
      have:1≤x*y:=Nat.mul_pos Ya Ya
      simp at h2
      omega
     obtain ⟨m',rfl⟩:∃ m',m=m'+1:=⟨m - 1,by omega⟩
     refine ⟨?_,by omega⟩
     have e2:x%y+y*(x / y)=x:=Nat.mod_add_div x y
     have e3:1≤x / y:=Nat.div_pos (Nat.le_of_lt h1) (Nat.pos_of_ne_zero hy)
     have e4:y*1≤y*(x / y):=Nat.mul_le_mul_left _ e3
     have e5:2*(x%y)≤x:=Ya
     have e6:y*(2*(x%y))≤y*x:=Nat.mul_le_mul_left _ e5
     rw [Nat.pow_succ] at h2
     rw [Nat.mul_comm x y] at h2
     have e7:y*(2*(x%y))=2*(y*(x%y)):=by rw [← Nat.mul_assoc,Nat.mul_comm y 2,Nat.mul_assoc]
     simp only [Nat.add_sub_cancel]
     omega
end Go.Proofs.YtachkofbmodnnaaGreat.R3
