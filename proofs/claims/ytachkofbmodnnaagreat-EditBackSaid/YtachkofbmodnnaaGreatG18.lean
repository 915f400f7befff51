/- Proved here: parts of the way to BEditBack (BH5 BH6); no condition beyond those that each theorem names. -/
import Derived.Test.YtachkofbmodnnaaGreatG17
set_option linter.unusedSimpArgs false
set_option linter.unusedVariables false
namespace Go.Im
def sv (ls:List ByteArray):List Value:=ls.map Value.string
theorem Zbb (a b:List ByteArray):sv (a++b)=sv a++sv b:=by simp [sv]
theorem Zo7 {ls:List ByteArray} {i:Nat} {x:ByteArray} (h:ls[i]? =some x):(sv ls)[i]? =some (.string x):=by simp [sv,h]
theorem ZcL {low:Nat} {h w:Heap} (hlow:low≤h.size) (x:Ext h w) {n:Nat} {s:ByteArray} {v:Value} {l:List ByteArray} (H:Own h.size w 1 v n (sv l)) (hn:n≤1000000) :
  ∃ w',iapp low w 1 16 v 1 (some [.string s])=some (.slice (some ⟨w.size,0,none⟩) (n+1) big,w')∧Own h.size w' 1 (.slice (some ⟨w.size,0,none⟩) (n+1) big) (n+1) (sv (l++[s]))∧w'.size=w.size+1∧Ext h w':=by
 have:=Zbu (low:=low) (bytes:=16) (k:=1) (new:=[.string s]) hlow x H Ya Ya Yn Ya Ya
 rw [Zbb]
 exact this
end Go.Im
namespace Go.Proofs.YtachkofbmodnnaaGreat.H2
open Go Go.Im Go.Im.Limbs Go.Im.Lexing Go.Im.Heads Go.Proofs Go.RowKit Hd N18 N19 N23 N26 R8 R9 T0
set_option maxRecDepth 100000
theorem Zmo (xs:List XT) (h:Heap) {a:Option Addr} {c:Nat} (s:Sl h 9 a xs.length c (xcs xs)) (hA:∀ x ∈ xs,Arr5 x.2) (hl:xs.length≤1000) :
  Runs K 58 #[.slice a xs.length c] h fun r w=>Own h.size w 1 r (((xs.map (·.1)).takeWhile isN).map wd).length (sv (((xs.map (·.1)).takeWhile isN).map wd)):=by
 refine Runs.of Kok (Does.intro rfl Ye Tryz.func58 rfl ?_)
 obtain ⟨ts,hts⟩:∃ ts,ts=xs.map (·.1):=⟨_,rfl⟩
 have hlen:ts.length=xs.length:=by rw [hts,List.length_map]
 rw [← hts]
 simp +decide only [go_sem,WR,WS]
 refine Zah (α:=Nat × Value) (fun k e w=>k.1≤xs.length∧e.size=22∧Ext h w∧e.get 3=k.2∧Own h.size w 1 k.2 k.1 (sv ((ts.take k.1).map wd))∧e.get 6= .slice a xs.length c∧e.get 7= .int .i64 ((xs.length:Nat):Int)∧e.get 8= .int .i64 (k.1:Int)∧ts.takeWhile isN=ts.take k.1++(ts.drop k.1).takeWhile isN) (fun k=>xs.length - k.1) (0,.slice none 0 0) ?_ ?_
 ·exact ⟨Nat.zero_le _,Yc,Ext.refl h,Yc,Own.nil _ _ _,Yc,Yc,by simp +decide only [go_sem];rfl,by simp⟩
 ·rintro ⟨k,v⟩ e w ⟨hk,hsz,hxw,e3,own,e6,e7,e8,htw⟩ next
  simp only at hk e3 own e8 htw
  by_cases hc:(k:Int) < ((xs.length:Nat):Int)
  ·obtain ⟨X,hX⟩:∃ X,xs[k]? =some X:=⟨_,List.getElem?_eq_getElem Ya⟩
   have hXm:ts[k]? =some X.1:=by rw [hts,List.getElem?_map,hX];rfl
   have hXA:=hA X (List.mem_of_getElem? hX)
   obtain ⟨b,o,cs,rfl,p2,p3,p4,_,p5,p6,p7,p8⟩:=Sl.tok (s.ext hxw) hA rfl hX
   obtain ⟨ta,tn,tc,tb,ta2,tn2,tc2,ta3,tn3,tc3,tm,hrest⟩:=hXA
   have c0:(0:Int)≤(k:Int):=Ya
   obtain ⟨w1,e1,x1,hs1,z1⟩:=lay1 w (.cells [.int .i64 0,.int .i64 0,.string ByteArray.empty,.int .i32 0,.slice none 0 0,.bool false,.slice none 0 0,.slice none 0 0,.bool false] 9)
   have j1:h.size≤w.size:=hxw.1
   obtain ⟨w2,e2,x2,hs2,z2,k2⟩:=put1 x1 (Nat.le_refl _) (.cells (tc4 X.1++X.2) 9)
   have hcl:tc4 X.1++X.2=[.int .i64 (X.1.2.kind:Int),.int .i64 (X.1.1:Int),.string (runesBytes X.1.2.word),.int .i32 X.1.2.sign,.slice ta tn tc,.bool tb,.slice ta2 tn2 tc2,.slice ta3 tn3 tc3,.bool tm]:=by rw [hrest];rfl
   rw [hcl] at p7 e2 z2
   have hd:ts.drop k=X.1::ts.drop (k+1):=by
    obtain ⟨h1,h2⟩:=List.getElem?_eq_some_iff.1 hXm
    rw [← h2]
    exact List.drop_eq_getElem_cons h1
   rw [hd] at htw
   by_cases hk2:X.1.2.kind=2
   ·have hk2':((X.1.2.kind:Nat):Int)=2:=by omega
    rw [hk2'] at p7 e2 z2
    obtain ⟨w3,e3',x3,hs3,z3⟩:=lay1 w2 (.cells [.string (runesBytes X.1.2.word)] 1)
    obtain ⟨w4,e4',own4,hs4,x4⟩:=ZcL (low:=h.size) (s:=runesBytes X.1.2.word) (Nat.le_refl _) (hxw.trans (x2.trans x3)) ((own.ext x2).ext x3) Ya
    have i1:IntKind.i64.wrap ((k:Int)+1)=((k+1:Nat):Int):=Yd
    simp +decide only [go_sem,WR,WS,hsz,e3,e6,e7,e8,hc,c0,Int.toNat_natCast,p3,p8,p7,e1,z1,j1,e2,z2,e3',z3,e4',i1]
    have hwd:(ts.take (k+1)).map wd=(ts.take k).map wd++[runesBytes X.1.2.word]:=by
     rw [List.take_add_one,hXm]
     simp [wd]
    refine next (k+1,.slice (some ⟨w3.size,0,none⟩) (k+1) big) _ _ ⟨by simp only;omega,Yb,x4,Yb,?_,Ym,Yi,Yb,?_⟩ Yj
    ·simp only [hwd]
     exact own4
    ·rw [htw,List.takeWhile_cons_of_pos (by simp [isN,hk2]),List.take_add_one,hXm]
     simp
   ·have hk2':¬ ((X.1.2.kind:Nat):Int)=2:=by omega
    rw [List.takeWhile_cons_of_neg (by simp [isN,hk2]),List.append_nil] at htw
    simp +decide only [go_sem,WR,WS,hsz,e3,e6,e7,e8,hc,c0,Int.toNat_natCast,p3,p8,p7,e1,z1,j1,e2,z2,hk2']
    rw [htw]
    have hkl:((ts.take k).map wd).length=k:=Yl
    rw [hkl]
    exact own.ext x2
  ·have hke:k=xs.length:=by omega
   subst hke
   simp +decide only [go_sem,WR,WS,hsz,e3,e6,e7,e8,hc]
   rw [List.drop_of_length_le Ya,List.takeWhile_nil,List.append_nil] at htw
   rw [htw]
   have hkl:((ts.take xs.length).map wd).length=xs.length:=Yl
   rw [hkl]
   exact own
def hl (x:HdT) (v:Value):List Value:=[.string x.nm,.string x.re,.string x.le,.string x.ri,v]
theorem Zly (P:List ByteArray) (i:Nat) (s:ByteArray) (h:P[i]? =some s):(P.take (i+1)).filter (fun s=> !decide (s=E))=(P.take i).filter (fun s=> !decide (s=E))++(if s=E then [] else [s]):=by
 rw [List.take_add_one,h,List.filter_append]
 by_cases hs:s=E<;>simp [hs]
theorem ZgS (x:HdT) (h:Heap) {a:Option Addr} {c:Nat} (s:Sl h 1 a x.ls.length c (sv x.ls)) (hl':x.ls.length≤1000) :
  Runs K 51 #[.agg (hl x (.slice a x.ls.length c)).toArray] h fun r w=>Own h.size w 1 r x.names.length (sv x.names):=by
 refine Runs.of Kok (Does.intro rfl Ye Tryz.func51 rfl ?_)
 obtain ⟨w0,e0,x0,hs0,z0⟩:=lay1 h (.cells [.string x.nm,.string x.re,.string x.le,.string x.ri,.slice a x.ls.length c] 5)
 obtain ⟨w1,e1,x1,hs1,z1⟩:=lay1 w0 (.cells [.string x.re,.string x.le,.string x.ri] 1)
 simp +decide only [go_sem,WR,WS,hl,e0,z0,e1]
 obtain ⟨P,hP⟩:∃ P,P=[x.re,x.le,x.ri]:=⟨_,rfl⟩
 have l1:h.size≤w1.size:=(x0.trans x1).1
 refine Zah (α:=Nat × Value) (fun k e w=>k.1≤3∧e.size=29∧Ext w1 w∧e.get 3=k.2∧Own w1.size w 1 k.2 ((P.take k.1).filter (fun s=> !decide (s=E))).length (sv ((P.take k.1).filter (fun s=> !decide (s=E))))∧e.get 1= .pointer (some ⟨h.size,0,none⟩)∧e.get 12= .slice (some ⟨w0.size,0,none⟩) 3 3∧e.get 13= .int .i64 3∧e.get 14= .int .i64 (k.1:Int)) (fun k=>3 - k.1) (0,.slice none 0 0) ?_ ?_
 ·exact ⟨Nat.zero_le _,Yc,Ext.refl _,Yc,Own.nil _ _ _,Yc,Yc,by simp +decide only [go_sem];rfl,by simp +decide only [go_sem];rfl⟩
 ·rintro ⟨k,v⟩ e w ⟨hk,hsz,hxw,e3,own,g1,g12,g13,g14⟩ next
  simp only at hk e3 own g14
  have y0:w.get h.size=_:=(hxw.2 _ Ya).trans ((x1.2 _ Ya).trans z0)
  have y1:w.get w0.size=_:=(hxw.2 _ Ya).trans z1
  have hfl:((P.take k).filter (fun s=> !decide (s=E))).length≤3:=Nat.le_trans (List.length_filter_le _ _) Yl
  by_cases hc:(k:Int) < 3
  ·obtain ⟨t,ht⟩:∃ t,P[k]? =some t:=⟨_,List.getElem?_eq_getElem (by rw [hP];simp;omega)⟩
   have hts:=Zly P k t ht
   have c0:(0:Int)≤(k:Int):=Ya
   have hc':(k:Int) < ((3:Nat):Int):=Ya
   have ht':([.string x.re,.string x.le,.string x.ri]:List Value)[k]? =some (.string t):=by
    have:=Zo7 ht
    rw [hP] at this
    exact this
   have i1:IntKind.i64.wrap ((k:Int)+1)=((k+1:Nat):Int):=Yd
   by_cases he:t=E
   ·rw [if_pos he,List.append_nil] at hts
    have he':t=⟨#[]⟩:=he
    simp +decide only [go_sem,WR,WS,hsz,e3,g12,g13,g14,hc,hc',c0,Int.toNat_natCast,y1,ht',he',i1,Nat.zero_add,Nat.mul_one]
    refine next (k+1,v) _ _ ⟨by simp only;omega,Yb,hxw,Yq,?_,Yz,by simp +decide only [go_sem,hsz,g12],by simp +decide only [go_sem,hsz,g13],Yb⟩ Yj
    simp only [hts]
    exact own
   ·rw [if_neg he] at hts
    have he':¬ t=⟨#[]⟩:=he
    obtain ⟨w3,e3',x3,hs3,z3⟩:=lay1 w (.cells [.string t] 1)
    obtain ⟨w4,e4',own4,hs4,x4⟩:=ZcL (low:=h.size) (s:=t) l1 (hxw.trans x3) (own.ext x3) Ya
    simp +decide only [go_sem,WR,WS,hsz,e3,g12,g13,g14,hc,hc',c0,Int.toNat_natCast,y1,ht',he',e3',z3,e4',i1,Nat.zero_add,Nat.mul_one]
    refine next (k+1,.slice (some ⟨w3.size,0,none⟩) (((P.take k).filter (fun s=> !decide (s=E))).length+1) big) _ _ ⟨by simp only;omega,Yb,x4,Yb,?_,Yz,by simp +decide only [go_sem,hsz,g12],by simp +decide only [go_sem,hsz,g13],Yb⟩ Yj
    simp only [hts,List.length_append,List.length_singleton]
    exact own4
  ·have hk3:k=3:=by omega
   subst hk3
   have hn:x.names=((P.take 3).filter (fun s=> !decide (s=E)))++x.ls:=by rw [hP];rfl
   obtain ⟨a2,c2,w5,e5',own5,x5,hc2⟩:=Zmf (low:=h.size) (bytes:=16) l1 hxw own (k:=x.ls.length) (new:=sv x.ls) Ya (by simp [sv]) Ya Ya
   have isl:=((s.ext (x0.trans x1)).ext hxw).isl
   simp +decide only [go_sem,WR,WS,hsz,e3,g1,g13,g14,hc,y0,isl,e5']
   rw [hn,List.length_append,Zbb]
   exact own5.keep l1 fun b hb _=>⟨rfl,hb⟩
theorem ZgA (x:HdT) (h:Heap) {a:Option Addr} {c:Nat} (s:Sl h 1 a x.ls.length c (sv x.ls)) (hl':x.ls.length≤1000) :
  Runs K 68 #[.agg (hl x (.slice a x.ls.length c)).toArray] h fun r w=>Own h.size w 1 r x.names.length (sv x.names):=by
 refine Runs.of Kok (Does.intro rfl Ye Tryz.func68 rfl ?_)
 obtain ⟨w0,e0,x0,hs0,z0⟩:=lay1 h (.cells [.string x.nm,.string x.re,.string x.le,.string x.ri,.slice a x.ls.length c] 5)
 apply Za1 (α:=Value) (fun v e w=>e.size=32∧Ext w0 w∧e.get 1= .pointer (some ⟨h.size,0,none⟩)∧e.get 3=v∧Own w0.size w 1 v ([]:List ByteArray).length (sv []))
 ·intro cont
  simp +decide only [go_sem,WS,hl,e0]
  (rw [WR];simp +decide only [go_sem,WS,e0])
  (rw [WR];simp +decide only [go_sem,WS])
  exact cont (.slice none 0 0) _ _ ⟨Yc,Ext.refl _,Yc,Yc,Own.nil _ _ _⟩
 rintro v e w ⟨hsz,hxw,g1,e3,own⟩
 apply Za1 (α:=Value) (fun v e w=>e.size=32∧Ext w0 w∧e.get 1= .pointer (some ⟨h.size,0,none⟩)∧e.get 3=v∧Own w0.size w 1 v (([]:List ByteArray)++(if x.re=E then [] else [x.re])).length (sv (([]:List ByteArray)++(if x.re=E then [] else [x.re]))))
 ·intro cont
  have y0:w.get h.size=_:=(hxw.2 _ Ya).trans z0
  by_cases he:x.re=E
  ·have he':x.re=⟨#[]⟩:=he
   (rw [WR];simp +decide only [go_sem,WS,hsz,g1,e3,y0,he'])
   exact cont v _ _ ⟨Yb,hxw,Yz,Yq,by simp only [if_pos he,List.append_nil];exact own⟩
  ·have he':¬ x.re=⟨#[]⟩:=he
   obtain ⟨w3,e3',x3,hs3,z3⟩:=lay1 w (.cells [.string x.re] 1)
   have hlen:(([]:List ByteArray)).length≤3:=YH
   obtain ⟨w4,e4',own4,hs4,x4⟩:=ZcL (low:=h.size) (s:=x.re) x0.1 (hxw.trans x3) (own.ext x3) Ya
   (rw [WR];simp +decide only [go_sem,WS,hsz,g1,e3,y0,he'])
   (rw [WR];simp +decide only [go_sem,WS,hsz,g1,e3,y0,he',e3',z3,e4'])
   exact cont _ _ _ ⟨Yb,x4,Yz,by simp +decide only [go_sem,hsz];rfl,by rw [if_neg he,@List.length_append _ (([]:List ByteArray)) _,List.length_singleton];exact own4⟩
 rintro v e w ⟨hsz,hxw,g1,e3,own⟩
 apply Za1 (α:=Value) (fun v e w=>e.size=32∧Ext w0 w∧e.get 1= .pointer (some ⟨h.size,0,none⟩)∧e.get 3=v∧Own w0.size w 1 v (([]:List ByteArray)++(if x.re=E then [] else [x.re])++(if x.le=E then [] else [x.le])).length (sv (([]:List ByteArray)++(if x.re=E then [] else [x.re])++(if x.le=E then [] else [x.le]))))
 ·intro cont
  have y0:w.get h.size=_:=(hxw.2 _ Ya).trans z0
  by_cases he:x.le=E
  ·have he':x.le=⟨#[]⟩:=he
   (rw [WR];simp +decide only [go_sem,WS,hsz,g1,e3,y0,he'])
   exact cont v _ _ ⟨Yb,hxw,Yz,Yq,by simp only [if_pos he,List.append_nil];exact own⟩
  ·have he':¬ x.le=⟨#[]⟩:=he
   obtain ⟨w3,e3',x3,hs3,z3⟩:=lay1 w (.cells [.string x.le] 1)
   have hlen:(([]:List ByteArray)++(if x.re=E then [] else [x.re])).length≤3:=YH
   obtain ⟨w4,e4',own4,hs4,x4⟩:=ZcL (low:=h.size) (s:=x.le) x0.1 (hxw.trans x3) (own.ext x3) Ya
   (rw [WR];simp +decide only [go_sem,WS,hsz,g1,e3,y0,he'])
   (rw [WR];simp +decide only [go_sem,WS,hsz,g1,e3,y0,he',e3',z3,e4'])
   exact cont _ _ _ ⟨Yb,x4,Yz,by simp +decide only [go_sem,hsz];rfl,by rw [if_neg he,@List.length_append _ (([]:List ByteArray)++(if x.re=E then [] else [x.re])) _,List.length_singleton];exact own4⟩
 rintro v e w ⟨hsz,hxw,g1,e3,own⟩
 apply Za1 (α:=Value) (fun v e w=>e.size=32∧Ext w0 w∧e.get 1= .pointer (some ⟨h.size,0,none⟩)∧e.get 3=v∧Own w0.size w 1 v (([]:List ByteArray)++(if x.re=E then [] else [x.re])++(if x.le=E then [] else [x.le])++(if x.ri=E then [] else [x.ri])).length (sv (([]:List ByteArray)++(if x.re=E then [] else [x.re])++(if x.le=E then [] else [x.le])++(if x.ri=E then [] else [x.ri]))))
 ·intro cont
  have y0:w.get h.size=_:=(hxw.2 _ Ya).trans z0
  by_cases he:x.ri=E
  ·have he':x.ri=⟨#[]⟩:=he
   (rw [WR];simp +decide only [go_sem,WS,hsz,g1,e3,y0,he'])
   exact cont v _ _ ⟨Yb,hxw,Yz,Yq,by simp only [if_pos he,List.append_nil];exact own⟩
  ·have he':¬ x.ri=⟨#[]⟩:=he
   obtain ⟨w3,e3',x3,hs3,z3⟩:=lay1 w (.cells [.string x.ri] 1)
   have hlen:(([]:List ByteArray)++(if x.re=E then [] else [x.re])++(if x.le=E then [] else [x.le])).length≤3:=YH
   obtain ⟨w4,e4',own4,hs4,x4⟩:=ZcL (low:=h.size) (s:=x.ri) x0.1 (hxw.trans x3) (own.ext x3) Ya
   (rw [WR];simp +decide only [go_sem,WS,hsz,g1,e3,y0,he'])
   (rw [WR];simp +decide only [go_sem,WS,hsz,g1,e3,y0,he',e3',z3,e4'])
   exact cont _ _ _ ⟨Yb,x4,Yz,by simp +decide only [go_sem,hsz];rfl,by rw [if_neg he,@List.length_append _ (([]:List ByteArray)++(if x.re=E then [] else [x.re])++(if x.le=E then [] else [x.le])) _,List.length_singleton];exact own4⟩
 rintro v e w ⟨hsz,hxw,g1,e3,own⟩
 have y0:w.get h.size=_:=(hxw.2 _ Ya).trans z0
 have hn:x.names=(([]:List ByteArray)++(if x.re=E then [] else [x.re])++(if x.le=E then [] else [x.le])++(if x.ri=E then [] else [x.ri]))++x.ls:=by
  simp only [HdT.names]
  by_cases h1:x.re=E<;>by_cases h2:x.le=E<;>by_cases h3:x.ri=E<;>simp [h1,h2,h3]
 have hlen:(([]:List ByteArray)++(if x.re=E then [] else [x.re])++(if x.le=E then [] else [x.le])++(if x.ri=E then [] else [x.ri])).length≤3:=YH
 obtain ⟨a2,c2,w5,e5',own5,x5,hc2⟩:=Zmf (low:=h.size) (bytes:=16) x0.1 hxw own (k:=x.ls.length) (new:=sv x.ls) Ya (by simp [sv]) Ya Ya
 have isl:=((s.ext x0).ext hxw).isl
 simp +decide only [go_sem,WR,WS,hsz,e3,g1,y0,isl,e5']
 rw [hn,@List.length_append _ (([]:List ByteArray)++(if x.re=E then [] else [x.re])++(if x.le=E then [] else [x.le])++(if x.ri=E then [] else [x.ri])) _,Zbb]
 exact own5.keep x0.1 fun b hb _=>⟨rfl,hb⟩
end Go.Proofs.YtachkofbmodnnaaGreat.H2
namespace Go.Proofs.YtachkofbmodnnaaGreat.H3
open Go Go.Im Go.Im.Limbs Go.Im.Lexing Go.Im.Heads Go.Proofs Go.RowKit Hd N18 N19 N23 N26 R8 R9 T0 H2
set_option maxRecDepth 100000
theorem ZaN {h:Heap} {a:Option Addr} {c:Nat} {ls:List ByteArray} (s:Sl h 1 a ls.length c (sv ls)) {i:Nat} (hi:i < ls.length):∃ b o cs,a=some ⟨b,o,none⟩∧b < h.size∧(h.get b).read= .cells cs 1∧cs[o+i]? =some (.string ls[i]) :=
 s.one (Zo7 (List.getElem?_eq_getElem hi))
theorem ZnA (ls:List ByteArray) (h:Heap) {a:Option Addr} {c:Nat} (s:Sl h 1 a ls.length c (sv ls)) (hl':ls.length≤1000) :
  Runs K 67 #[.slice a ls.length c] h fun r w=>r= .bool (decide ls.Nodup)∧w=h:=by
 refine Runs.of Kok (Does.intro rfl Ye Tryz.func67 rfl ?_)
 simp +decide only [go_sem,WR,WS]
 refine Zah (α:=Nat) (fun i e w=>i≤ls.length∧e.size=25∧w=h∧e.get 0= .slice a ls.length c∧e.get 3= .int .i64 (i:Int)∧∀ p q (hp:p < ls.length) (hq:q < ls.length),p < q→q < i→ls[p]≠ls[q]) (fun i=>ls.length - i) 0 ?_ ?_
 ·exact ⟨Nat.zero_le _,Yc,rfl,Yc,by simp +decide only [go_sem];rfl,fun p q _ _ _ h=>absurd h Ya⟩
 ·rintro i e w ⟨hi,hsz,rfl,e0,e3,hne⟩ next
  by_cases hc:(i:Int) < ((ls.length:Nat):Int)
  ·have hil:i < ls.length:=by omega
   simp +decide only [go_sem,WR,WS,hsz,e0,e3,hc]
   refine Zah (α:=Nat) (fun j e w'=>j≤i∧e.size=25∧w'=w∧e.get 0= .slice a ls.length c∧e.get 3= .int .i64 (i:Int)∧e.get 4= .int .i64 (j:Int)∧∀ p (hp:p < ls.length),p < j→ls[p]≠ls[i]) (fun j=>i - j) 0 ?_ ?_
   ·exact ⟨Nat.zero_le _,Yb,rfl,Yf,Yq,by simp +decide only [go_sem,hsz];rfl,fun p _ h=>absurd h Ya⟩
   ·rintro j e w' ⟨hj,hsz,rfl,e0,e3,e4,hnj⟩ next2
    by_cases hcj:(j:Int) < (i:Int)
    ·have hjl:j < ls.length:=by omega
     obtain ⟨b,o,cs,rfl,p2,p3,p4⟩:=ZaN s hil
     obtain ⟨b2,o2,cs2,hq,_,q3,q4⟩:=ZaN s hjl
     cases hq
     rw [p3] at q3
     cases q3
     have c0:(0:Int)≤(i:Int):=Ya
     have d0:(0:Int)≤(j:Int):=Ya
     have d1:(j:Int) < ((ls.length:Nat):Int):=Ya
     have i1:IntKind.i64.wrap ((j:Int)+1)=((j+1:Nat):Int):=Yd
     by_cases he:ls[i]=ls[j]
     ·simp +decide only [go_sem,WR,WS,hsz,e0,e3,e4,hcj,c0,hc,d0,d1,Int.toNat_natCast,p3,p4,q4,he,Nat.mul_one]
      have:¬ ls.Nodup:=fun hh=>by
       rw [List.Nodup,List.pairwise_iff_getElem] at hh
       exact hh j i hjl hil Ya he.symm
      simp [this]
     ·simp +decide only [go_sem,WR,WS,hsz,e0,e3,e4,hcj,c0,hc,d0,d1,Int.toNat_natCast,p3,p4,q4,he,Nat.mul_one,i1]
      refine next2 (j+1) _ _ ⟨by omega,Yb,rfl,Yf,Yq,Yb,fun p hp hpj=> ?_⟩ Ya
      by_cases hpe:p=j
      ·subst hpe
       exact fun e=>he e.symm
      ·exact hnj p hp Ya
    ·have hji:j=i:=by omega
     subst hji
     have i1:IntKind.i64.wrap ((j:Int)+1)=((j+1:Nat):Int):=Yd
     simp +decide only [go_sem,WR,WS,hsz,e0,e3,e4,hcj,i1]
     refine next (j+1) _ _ ⟨by omega,Yb,rfl,Yf,Yb,fun p q hp hq hpq hqi=> ?_⟩ Ya
     by_cases hqe:q=j
     ·subst hqe
      exact hnj p hp hpq
     ·exact hne p q hp hq hpq Ya
  ·have hie:i=ls.length:=by omega
   simp +decide only [go_sem,WR,WS,hsz,e0,e3,hc]
   have:ls.Nodup:=by
    rw [List.Nodup,List.pairwise_iff_getElem]
    exact fun p q hp hq hpq=>hne p q hp hq hpq Ya
   simp [this]
theorem ZfE (ls:List ByteArray) (h:Heap) {a a2:Option Addr} {c c2:Nat} (s:Sl h 1 a ls.length c (sv ls)) (s2:Sl h 1 a2 ls.length c2 (sv ls)) (hl':ls.length≤1000) :
  Runs K 23 #[.slice a ls.length c,.slice a2 ls.length c2] h fun r w=>r= .bool true∧w=h:=by
 refine Runs.of Kok (Does.intro rfl Ye Tryz.func23 rfl ?_)
 simp +decide only [go_sem,WR,WS]
 refine Zah (α:=Nat) (fun i e w=>i≤ls.length∧e.size=26∧w=h∧e.get 0= .slice a ls.length c∧e.get 1= .slice a2 ls.length c2∧e.get 5= .int .i64 (i:Int)) (fun i=>ls.length - i) 0 ?_ ?_
 ·exact ⟨Nat.zero_le _,Yc,rfl,Yc,Yc,by simp +decide only [go_sem];rfl⟩
 ·rintro i e w ⟨hi,hsz,rfl,e0,e1,e5⟩ next
  by_cases hc:(i:Int) < ((ls.length:Nat):Int)
  ·obtain ⟨b,o,cs,rfl,p2,p3,p4⟩:=ZaN s (i:=i) Ya
   obtain ⟨b2,o2,cs2,rfl,_,q3,q4⟩:=ZaN s2 (i:=i) Ya
   have c0:(0:Int)≤(i:Int):=Ya
   have i1:IntKind.i64.wrap ((i:Int)+1)=((i+1:Nat):Int):=Yd
   simp +decide only [go_sem,WR,WS,hsz,e0,e1,e5,c0,hc,Int.toNat_natCast,p3,p4,q3,q4,Nat.mul_one,i1]
   exact next (i+1) _ _ ⟨by omega,Yb,rfl,Yf,Yk,Yb⟩ Ya
  ·simp +decide only [go_sem,WR,WS,hsz,e0,e1,e5,hc]
end Go.Proofs.YtachkofbmodnnaaGreat.H3
namespace Go.Proofs.YtachkofbmodnnaaGreat.H4
open Go Go.Im Go.Im.Limbs Go.Im.Lexing Go.Im.Heads Go.Proofs Go.RowKit Go.Sort Hd N18 N19 N23 N26 R8 R9 T0 H2 H3
set_option maxRecDepth 100000
theorem isE {s:ByteArray}:s=E↔s.data.toList=[]:=by
 constructor
 ·intro h
  rw [h]
  rfl
 ·intro h
  cases s with
  | mk d =>
    have:d= #[]:=by simpa using h
    rw [this]
    rfl
def txtL (x:HdT):List UInt8:=S3.txt x.nm.data.toList x.re.data.toList x.le.data.toList x.ri.data.toList (x.ls.map (·.data.toList))
def txtB (x:HdT):ByteArray:=⟨(txtL x).toArray⟩
def Ze7 (x:HdT):List UInt8:=(if x.re.data.toList=[] then [] else x.re.data.toList++[226,134,144])++((if x.le.data.toList=[] then [] else x.le.data.toList++[32])++x.nm.data.toList)
theorem ZfP (x:HdT) (h:Heap) {a:Option Addr} {c:Nat} (s:Sl h 1 a x.ls.length c (sv x.ls)) (hl':x.ls.length≤1000) (hz:x.nm.size≤1000000∧x.re.size≤1000000∧x.le.size≤1000000∧x.ri.size≤1000000∧∀ y ∈ x.ls,y.size≤1000000) :
  Runs K 39 #[.agg (hl x (.slice a x.ls.length c)).toArray] h fun r w=>r= .string (txtB x):=by
 refine Runs.of Kok (Does.intro rfl Ye Tryz.func39 rfl ?_)
 obtain ⟨zn,zr,zl,zi,zs⟩:=hz
 have cat:∀ {s u:ByteArray},s.size≤4000000000→u.size≤4000000000→∀ t,Zaj Tryz.prog .add t (.string s) (.string u)=some (.string (s++u)):=fun h1 h2 t=>ZeN Ya
 have s3:(⟨#[226,134,144]⟩:ByteArray).size=3:=rfl
 have s1:(⟨#[32]⟩:ByteArray).size=1:=rfl
 have s2:(⟨#[59]⟩:ByteArray).size=1:=rfl
 obtain ⟨w0,e0,x0,hs0,z0⟩:=lay1 h (.cells [.string x.nm,.string x.re,.string x.le,.string x.ri,.slice a x.ls.length c] 5)
 apply Za1 (α:=ByteArray) (fun t e w=>e.size=64∧w=w0∧e.get 1= .pointer (some ⟨h.size,0,none⟩)∧e.get 3= .string t∧t.data.toList=Ze7 x)
 ·intro cont
  simp +decide only [go_sem,WS,hl,e0]
  (rw [WR];simp +decide only [go_sem,WS,e0])
  (rw [WR];simp +decide only [go_sem,WS,z0])
  by_cases h1:x.re=E
  ·have h1':x.re=⟨#[]⟩:=h1
   (rw [WR];simp +decide only [go_sem,WS,z0,h1'])
   (rw [WR];simp +decide only [go_sem,WS,z0,h1'])
   by_cases h2:x.le=E
   ·have h2':x.le=⟨#[]⟩:=h2
    (rw [WR];simp +decide only [go_sem,WS,z0,h2'])
    exact cont x.nm _ _ ⟨Yc,rfl,Yc,Yc,by simp [Ze7,isE.1 h1,isE.1 h2]⟩
   ·have h2':¬ x.le=⟨#[]⟩:=h2
    (rw [WR];simp +decide only [go_sem,WS,z0,h2'])
    have k1:=cat (s:=x.le) (u:=⟨#[32]⟩) Ya Ya
    have k2:=cat (s:=x.le++⟨#[32]⟩) (u:=x.nm) Yx Ya
    (rw [WR];simp +decide only [go_sem,WS,z0,k1,k2])
    refine cont _ _ _ ⟨Yc,rfl,Yc,by simp +decide only [go_sem];rfl,?_⟩
    have:=fun e=>h2 (isE.2 e)
    unfold Ze7
    rw [if_pos (isE.1 h1),if_neg this]
    simp [ByteArray.data_append]
  ·have h1':¬ x.re=⟨#[]⟩:=h1
   have k1:=fun e=>h1 (isE.2 e)
   by_cases h2:x.le=E
   ·have h2':x.le=⟨#[]⟩:=h2
    (rw [WR];simp +decide only [go_sem,WS,z0,h1',h2'])
    (rw [WR];simp +decide only [go_sem,WS,z0,h1'])
    have c1:=cat (s:=x.re) (u:=⟨#[226,134,144]⟩) Ya Ya
    have c2:=cat (s:=x.re++⟨#[226,134,144]⟩) (u:=x.nm) Yx Ya
    (rw [WR];simp +decide only [go_sem,WS,z0,c1,c2])
    refine cont _ _ _ ⟨Yc,rfl,Yc,by simp +decide only [go_sem];rfl,?_⟩
    unfold Ze7
    rw [if_neg k1,if_pos (isE.1 h2)]
    simp [ByteArray.data_append]
   ·have h2':¬ x.le=⟨#[]⟩:=h2
    have k2:=fun e=>h2 (isE.2 e)
    (rw [WR];simp +decide only [go_sem,WS,z0,h1',h2'])
    have c1:=cat (s:=x.re) (u:=⟨#[226,134,144]⟩) Ya Ya
    have c2:=cat (s:=x.re++⟨#[226,134,144]⟩) (u:=x.le) Yx Ya
    have c3:=cat (s:=x.re++⟨#[226,134,144]⟩++x.le) (u:=⟨#[32]⟩) (by rw [ByteArray.size_append,ByteArray.size_append];omega) Ya
    have c4:=cat (s:=x.re++⟨#[226,134,144]⟩++x.le++⟨#[32]⟩) (u:=x.nm) (by rw [ByteArray.size_append,ByteArray.size_append,ByteArray.size_append];omega) Ya
    (rw [WR];simp +decide only [go_sem,WS,z0,c1,c2,c3,c4])
    refine cont _ _ _ ⟨Yc,rfl,Yc,by simp +decide only [go_sem];rfl,?_⟩
    unfold Ze7
    rw [if_neg k1,if_neg k2]
    simp [ByteArray.data_append]
 rintro t e w ⟨hsz,hw,g1,g3,ht⟩
 subst hw
 have tsz:t.size≤3000004:=by
  have h1:t.size=t.data.toList.length:=Yp
  have h2:∀ s:ByteArray,s.data.toList.length=s.size:=fun s=>by simp
  rw [h1,ht,Ze7]
  simp only [List.length_append]
  have e1:(if x.re.data.toList=[] then [] else x.re.data.toList++[226,134,144]).length≤x.re.size+3:=by split<;>simp
  have e2:(if x.le.data.toList=[] then [] else x.le.data.toList++[32]).length≤x.le.size+1:=by split<;>simp
  have e3:=h2 x.nm
  omega
 apply Za1 (α:=ByteArray) (fun t e w'=>e.size=64∧w'=w∧e.get 1= .pointer (some ⟨h.size,0,none⟩)∧e.get 3= .string t∧t.data.toList=Ze7 x++(if x.ri.data.toList=[] then [] else 32::x.ri.data.toList))
 ·intro cont
  by_cases h1:x.ri=E
  ·have h1':x.ri=⟨#[]⟩:=h1
   (rw [WR];simp +decide only [go_sem,WS,hsz,g1,g3,z0,h1'])
   exact cont t _ _ ⟨Yb,rfl,Yz,Y3,by simp [isE.1 h1,ht]⟩
  ·have h1':¬ x.ri=⟨#[]⟩:=h1
   have k1:=fun e=>h1 (isE.2 e)
   (rw [WR];simp +decide only [go_sem,WS,hsz,g1,g3,z0,h1'])
   have c1:=cat (s:=t) (u:=⟨#[32]⟩) Ya Ya
   have c2:=cat (s:=t++⟨#[32]⟩) (u:=x.ri) Yx Ya
   (rw [WR];simp +decide only [go_sem,WS,hsz,g1,g3,z0,c1,c2])
   refine cont _ _ _ ⟨Yb,rfl,Yz,by simp +decide only [go_sem,hsz];rfl,?_⟩
   rw [if_neg k1]
   simp [ht,ByteArray.data_append]
 rintro t2 e w' ⟨hsz,hw,g1,g3,ht2⟩
 have tsz2:t2.size≤4000005:=by
  have h1:∀ s:ByteArray,s.data.toList.length=s.size:=fun s=>by simp
  have h2:=h1 t2
  rw [ht2,← ht] at h2
  simp only [List.length_append] at h2
  have e1:(if x.ri.data.toList=[] then [] else 32::x.ri.data.toList).length≤x.ri.size+1:=by split<;>simp
  have e3:=h1 t
  omega
 subst hw
 (rw [WR];simp +decide only [go_sem,WS,hsz,g1,g3])
 refine Zah (α:=Nat × ByteArray) (fun k e w=>k.1≤x.ls.length∧e.size=64∧w=w'∧e.get 1= .pointer (some ⟨h.size,0,none⟩)∧e.get 3= .string k.2∧e.get 4= .int .i64 (k.1:Int)∧k.2.size≤4000005+k.1*1000001∧k.2.data.toList++((x.ls.drop k.1).map (·.data.toList)).flatMap (fun y=>59::y)=txtL x) (fun k=>x.ls.length - k.1) (0,t2) ?_ ?_
 ·refine ⟨Nat.zero_le _,Yb,rfl,Yz,Y3,by simp +decide only [go_sem,hsz];rfl,by simp only;omega,?_⟩
  rw [ht2]
  simp [Ze7,txtL,S3.txt,List.append_assoc]
 ·rintro ⟨i,t3⟩ e w ⟨hi,hsz,hw,g1,g3,g4,tz,hval⟩ next
  subst hw
  simp only at hi g3 g4 tz hval
  by_cases hc:(i:Int) < ((x.ls.length:Nat):Int)
  ·have hil:i < x.ls.length:=by omega
   obtain ⟨b,o,cs,rfl,p2,p3,p4⟩:=ZaN (s.ext x0) hil
   have c0:(0:Int)≤(i:Int):=Ya
   have i1:IntKind.i64.wrap ((i:Int)+1)=((i+1:Nat):Int):=Yd
   have zl':=zs x.ls[i] (List.getElem_mem hil)
   have c1:=cat (s:=t3) (u:=⟨#[59]⟩) Ya Ya
   have c2:=cat (s:=t3++⟨#[59]⟩) (u:=x.ls[i]) Yx Ya
   simp +decide only [go_sem,WR,WS,hsz,g1,g3,g4,z0,c1,c2,c0,hc,Int.toNat_natCast,p3,p4,Nat.mul_one,i1]
   refine next (i+1,t3++⟨#[59]⟩++x.ls[i]) _ _ ⟨by simp only;omega,Yb,rfl,Yz,Yb,Yb,by simp only [ByteArray.size_append];omega,?_⟩ Yj
   rw [← hval,List.drop_eq_getElem_cons hil,List.map_cons,List.flatMap_cons]
   simp only [ByteArray.data_append,Array.toList_append,List.append_assoc,List.cons_append,List.nil_append]
  ·simp +decide only [go_sem,WR,WS,hsz,g1,g3,g4,z0,hc]
   rw [List.drop_of_length_le Ya,List.map_nil,List.flatMap_nil,List.append_nil] at hval
   rw [txtB,← hval]
end Go.Proofs.YtachkofbmodnnaaGreat.H4
namespace Go.Im
theorem Zkz {low:Nat} {h:Heap} {b size bytes k:Nat} {new:List Value} (hg:h.get b= .cells [] size) (hs:0 < size) (hk:0 < k) (hn:new.length=k*size) (hb:2*k*bytes≤140737488355328) (hc:k≤4611686018427387904) :
  iapp low h size bytes (.slice (some ⟨b,0,none⟩) 0 0) k (some new)=some (.slice (some ⟨h.size,0,none⟩) k big,h.push (.cells new size)):=by
 simp only [iapp,Nat.zero_add]
 rw [if_neg Ya,if_neg Ya]
 simp only [iput,hg,Nat.zero_mul,List.length_nil,Nat.zero_add]
 rw [if_neg Yp,if_pos YT,if_neg Ya]
 simp
end Go.Im
namespace Go.Proofs.YtachkofbmodnnaaGreat.H5
open Go Go.Im Go.Im.Limbs Go.Im.Lexing Go.Im.Heads Go.Proofs Go.RowKit Go.Sort Hd N18 N19 N23 N26 R8 R9 T0 H2 H3 H4
set_option maxRecDepth 100000
theorem Zlx:K.ext 37=some ZfH:=rfl
theorem ZlI:K.ext 59=some Zdw:=rfl
theorem Znm:K.ext 60=some ZdN:=rfl
theorem Zdh {low:Nat} {f:FuncId} {args:Array Value} {h:Heap} {Q:Value→Heap→Prop} {g:Nat→Array Value→Heap→Option (Value × Heap)} (hg:K.ext f=some g) {v:Value} {w:Heap} (hr:g low args h=some (v,w)) (hq:Q v w):Does K low f args h Q :=
 ⟨1,v,w,by simp only [Zbk,hg];exact hr,hq⟩
theorem Zr6 (ls:List ByteArray):sv ls=(ls.map (·.data.toList)).map encStr:=by
 rw [List.map_map]
 rfl
def mkS (ss:List (List UInt8)):List ByteArray:=ss.map fun l=>⟨l.toArray⟩
theorem Zs2 (ss:List (List UInt8)):ss.map encStr=sv (mkS ss):=by
 rw [sv,mkS,List.map_map]
 rfl
theorem Zi3 {low:Nat} {h:Heap} {v:Value} {ls:List ByteArray} (H:Own low h 1 v ls.length (sv ls)) (h0:0 < ls.length) (hm:ls.length≤1000000) :
  ∃ b,v= .slice (some ⟨b,0,none⟩) ls.length big∧low≤b∧b < h.size∧h.get b= .cells (sv ls) 1∧ZcS low #[v] h=some ⟨b,0,ls.length,big,sv ls,ls.map (·.data.toList)⟩:=by
 rcases H with ⟨_,h1,_⟩ | ⟨b,rfl,h1,h2,h3,h4⟩
 ·omega
 ·refine ⟨b,rfl,h1,h2,h3,?_⟩
  have hd:((sv ls).drop 0).take ls.length=(ls.map (·.data.toList)).map encStr:=by
   rw [List.drop_zero,List.take_of_length_le (by rw [sv,List.length_map];omega),Zr6]
  simp only [ZcS]
  rw [if_pos ⟨h1,h0,hm⟩]
  simp only [h3,hd,Zgw]
  rw [if_pos (by rw [sv,List.length_map];omega)]
theorem ZlH {low:Nat} {h:Heap} {v:Value} {ls:List ByteArray} (H:Own low h 1 v ls.length (sv ls)) (h0:0 < ls.length) (hm:ls.length≤1000000) :
  Does K low 59 #[v] h fun r w=>Own low w 1 v ls.length (sv (mkS (sorted (ls.map (·.data.toList)))))∧w.size=h.size∧∀ b,vblk v≠some b→w.get b=h.get b:=by
 obtain ⟨b,rfl,h1,h2,h3,h4⟩:=Zi3 H h0 hm
 have hr:Zdw low #[.slice (some ⟨b,0,none⟩) ls.length big] h=some (.tuple #[],h.set b ((⟨b,0,ls.length,big,sv ls,ls.map (·.data.toList)⟩:RowA).blk (sorted (ls.map (·.data.toList))))):=by simp only [Zdw,h4]
 refine Zdh ZlI hr ?_
 have hlen:(sorted (ls.map (·.data.toList))).length=ls.length:=by simp [sorted]
 have hb:(⟨b,0,ls.length,big,sv ls,ls.map (·.data.toList)⟩:RowA).blk (sorted (ls.map (·.data.toList)))= .cells (sv (mkS (sorted (ls.map (·.data.toList))))) 1:=by
  simp only [RowA.blk,List.take_zero,List.nil_append,Nat.zero_add]
  rw [List.drop_of_length_le (by rw [sv,List.length_map];omega),List.append_nil,Zs2]
 rw [hb]
 refine ⟨.inr ⟨b,rfl,h1,h2,by rw [Heap.Zae,if_pos rfl],by simp [sv,mkS,hlen]⟩,rfl,fun c hc=> ?_⟩
 rw [Heap.Zae,if_neg (fun e=>hc (by simp [vblk,e]))]
theorem Znl {low:Nat} {h:Heap} {v:Value} {ls:List ByteArray} (H:Own low h 1 v ls.length (sv ls)) (h0:0 < ls.length) (hm:ls.length≤1000000) :
  Does K low 60 #[v] h fun r w=>(∃ a c,r= .slice a (Lib.compact (ls.map (·.data.toList))).length c)∧w.size=h.size∧∀ b,vblk v≠some b→w.get b=h.get b:=by
 obtain ⟨b,rfl,h1,h2,h3,h4⟩:=Zi3 H h0 hm
 have hle:=Zlj (ls.map (·.data.toList))
 have hr:ZdN low #[.slice (some ⟨b,0,none⟩) ls.length big] h=some (.slice (some ⟨b,0,none⟩) (Lib.compact (ls.map (·.data.toList))).length big,h.set b ((⟨b,0,ls.length,big,sv ls,ls.map (·.data.toList)⟩:RowA).blk (Zeq (ls.map (·.data.toList))))):=by
  simp only [ZdN,h4]
  rw [if_pos hle]
 refine Zdh Znm hr ?_
 refine ⟨⟨_,_,rfl⟩,rfl,fun c hc=> ?_⟩
 rw [Heap.Zae,if_neg (fun e=>hc (by simp [vblk,e]))]
theorem Zno {ls:List ByteArray} {h:Heap} {a:Option Addr} {c:Nat} (s:Sl h 1 a ls.length c (sv ls)) (h0:0 < ls.length) (hm:ls.length≤1000000) :
  Runs K 61 #[.slice a ls.length c] h fun r w=>Own h.size w 1 r ls.length (sv ls):=by
 refine Runs.of Kok (Does.intro rfl Ye Tryz.func61 rfl ?_)
 obtain ⟨w1,e1,x1,hs1,g1⟩:=lay1 h (.cells [] 1)
 obtain ⟨w2,e2,x2,hs2,g2⟩:=lay1 w1 (.cells (sv ls) 1)
 have e3:=Zkz (low:=h.size) (bytes:=16) (new:=sv ls) (k:=ls.length) g1 Ya h0 (by simp [sv]) Ya Ya
 rw [e2] at e3
 have hi:=(s.ext x1).isl
 obtain ⟨b,o,cs,rfl,_⟩:=ZaN s h0
 simp +decide only [go_sem,WR,WS,e1,hi,e3]
 exact .inr ⟨w1.size,rfl,x1.1,by omega,g2,by simp [sv]⟩
theorem ZnR {h:Heap} {ls:List ByteArray} {a:Option Addr} {c:Nat} (s:Sl h 1 a ls.length c (sv ls)) (hm:ls.length≤1000000):ZfF h (.slice a ls.length c)=some ls:=by
 by_cases h0:ls.length=0
 ·have:ls=[]:=List.eq_nil_of_length_eq_zero h0
  subst this
  rfl
 ·obtain ⟨b,o,cs,rfl,h2,h3,h4,h5⟩:=s.at (i:=0) Ya
  rw [Nat.mul_one] at h4 h5
  obtain ⟨m,e⟩:=Nat.exists_eq_succ_of_ne_zero h0
  rw [e] at h4 h5 ⊢
  simp only [ZfF,Heap.look,h3]
  rw [if_pos ⟨h4,by omega⟩,← h5]
  exact bytesOf_map ls
theorem ZjQ (x:HdT) (h:Heap) {a:Option Addr} {c:Nat} (s:Sl h 1 a x.ls.length c (sv x.ls)) (hl':x.ls.length≤1000) (hz:x.nm.size≤1000000∧x.re.size≤1000000∧x.le.size≤1000000∧x.ri.size≤1000000∧∀ y ∈ x.ls,y.size≤1000000) :
  Runs K 37 #[.agg (hl x (.slice a x.ls.length c)).toArray] h fun r w=>r= .string (txtB x):=by
 obtain ⟨zn,zr,zl,zi,zs⟩:=hz
 have ht:=ZnR s Ya
 refine Runs.of Kok (Zdh Zlx (v:= .string (txtB x)) (w:=h) ?_ rfl)
 simp only [ZfH,hl,ht]
 rw [if_pos (by simp [small,zn,zr,zl,zi];exact zs)]
 rfl
end Go.Proofs.YtachkofbmodnnaaGreat.H5
namespace Go.Im.Heads
open Go.Im.Lexing
theorem ZmA {l:List Int} {ts:List (Nat × Tk)} (h:lex l=some ts):l.length≤600:=by
 unfold lex at h
 split at h
 ·cases h
 ·omega
def nameAt (ts:List (Nat × Tk)) (i:Nat):Bool:=match ts[i]? with
 | some t=>isN t
 | none=>false
def fin (x:HdT):Option HdT:=if x.all.Nodup then some x else none
def Zcd (x:HdT) (ts:List (Nat × Tk)):Option HdT:=match locT ts with
 | none=>none
 | some ls=>fin { x with ls:=x.ls++ls }
def hdp (l:List Int):HdT × Bool:=match lex l with
 | none=>(hdZ,false)
 | some ts=>match ZaV ts with
   | none=>(hdZ,false)
   | some x=>(x,true)
theorem ZeF {ts us:List (Nat × Tk)} {re:ByteArray} {k:Nat} (hr:resT ts=(re,us)) (hk:us.takeWhile isN=us.take k) (hle:k≤us.length) (h:k < 1∨3 < k):ZaV ts=none:=by
 unfold ZaV
 simp only [hr,hk]
 have hl:((us.take k).map wd).length=k:=Yl
 have:∀ ls,Zgn re ((us.take k).map wd) ls=none:=by
  intro ls
  generalize (us.take k).map wd=ns at hl
  match ns,hl with
  | [],_=>rfl
  | [a],hl=>simp at hl;omega
  | [a,b],hl=>simp at hl;omega
  | [a,b,c],hl=>simp at hl;omega
  | a::b::c::d::r,_=>rfl
 split
 ·rfl
 ·rw [this]
theorem ZkS {ts us:List (Nat × Tk)} {re:ByteArray} {a:Nat × Tk} (hr:resT ts=(re,us)) (hk:us.takeWhile isN=us.take 1) (h0:us[0]? =some a):ZaV ts=Zcd ⟨wd a,re,E,E,[]⟩ (us.drop 1):=by
 have hn:us.take 1=[a]:=by
  match us,h0 with
  | x::us,h0=>simp at h0;simp [h0]
 unfold ZaV Zcd
 simp only [hr,hk,hn,List.map_cons,List.map_nil,List.length_singleton]
 cases locT (us.drop 1)<;>rfl
theorem ZkR {ts us:List (Nat × Tk)} {re:ByteArray} {a b:Nat × Tk} (hr:resT ts=(re,us)) (hk:us.takeWhile isN=us.take 2) (h0:us[0]? =some a) (h1:us[1]? =some b):ZaV ts=Zcd ⟨wd a,re,E,wd b,[]⟩ (us.drop 2):=by
 have hn:us.take 2=[a,b]:=by
  match us,h0,h1 with
  | x::y::us,h0,h1=>simp at h0 h1;simp [h0,h1]
 unfold ZaV Zcd
 simp only [hr,hk,hn,List.map_cons,List.map_nil,List.length_cons,List.length_nil]
 cases locT (us.drop 2)<;>rfl
theorem Zh5 {ts us:List (Nat × Tk)} {re:ByteArray} {a b c:Nat × Tk} (hr:resT ts=(re,us)) (hk:us.takeWhile isN=us.take 3) (h0:us[0]? =some a) (h1:us[1]? =some b) (h2:us[2]? =some c):ZaV ts=Zcd ⟨wd b,re,wd a,wd c,[]⟩ (us.drop 3):=by
 have hn:us.take 3=[a,b,c]:=by
  match us,h0,h1,h2 with
  | x::y::z::us,h0,h1,h2=>simp at h0 h1 h2;simp [h0,h1,h2]
 unfold ZaV Zcd
 simp only [hr,hk,hn,List.map_cons,List.map_nil,List.length_cons,List.length_nil]
 cases locT (us.drop 3)<;>rfl
theorem Zh3 (x:HdT):Zcd x []=fin x:=by
 simp only [Zcd,locT,List.append_nil]
theorem Zda (x:HdT) {a b:Nat × Tk} {us:List (Nat × Tk)}:Zcd x (a::b::us)=if isM a.2 59 && isN b then Zcd { x with ls:=x.ls++[wd b] } us else none:=by
 simp only [Zcd,locT]
 by_cases h:(isM a.2 59 && isN b)=true
 ·rw [if_pos h,if_pos h]
  cases locT us<;>simp
 ·rw [if_neg h,if_neg h]
theorem Zl3 (x:HdT) {a:Nat × Tk}:Zcd x [a]=none:=rfl
end Go.Im.Heads
namespace Go.Proofs.YtachkofbmodnnaaGreat.H6
open Go Go.Im Go.Im.Limbs Go.Im.Lexing Go.Im.Heads Go.Proofs Go.RowKit Go.Sort Hd N18 N19 N23 N26 R8 R9 T0 H2 H3 H4 H5
set_option maxRecDepth 100000
structure SS (b0:Heap) (q:Nat) (w:Heap) (x:HdT) (v:Value):Prop where
 ext:Ext b0 w
 lq:b0.size≤q
 hq:q < w.size
 g:w.get q= .cells (hl x v) 5
 own:Own b0.size w 1 v x.ls.length (sv x.ls)
theorem SS.more {b0 w w':Heap} {q:Nat} {x:HdT} {v:Value} (S:SS b0 q w x v) (k:Ext w w'):SS b0 q w' x v :=
 ⟨S.ext.trans k,S.lq,by have:=S.hq;have:=k.1;omega,(k.2 _ S.hq).trans S.g,S.own.ext k⟩
theorem SS.put {b0 w:Heap} {q:Nat} {x:HdT} {v:Value} (S:SS b0 q w x v) (x':HdT) (hx:x'.ls=x.ls):∃ w',w.set q (.cells (hl x' v) 5)=w'∧SS b0 q w' x' v∧w'.size=w.size:=by
 obtain ⟨w',e,k,hs,g,kk⟩:=put1 S.ext S.lq (.cells (hl x' v) 5)
 refine ⟨w',e,⟨k,S.lq,by have:=S.hq;omega,g,?_⟩,hs⟩
 rw [hx]
 exact S.own.keep (Nat.le_refl _) fun b hb hv=>⟨kk b (fun e=>(S.own.ne S.g Ya) (by rw [hv,e])),by omega⟩
theorem SS.app {b0 w:Heap} {q:Nat} {x:HdT} {v:Value} (S:SS b0 q w x v) {low:Nat} (hlow:low≤b0.size) (s:ByteArray) (hn:x.ls.length≤1000) :
  ∃ w3 w4 w5:Heap,w.push (.cells [.string s] 1)=w3∧w3.get w.size= .cells [.string s] 1∧w3.get q= .cells (hl x v) 5∧iapp low w3 1 16 v 1 (some [.string s])=some (.slice (some ⟨w3.size,0,none⟩) (x.ls.length+1) big,w4)∧w4.get q= .cells (hl x v) 5 ∧
    w4.set q (.cells (hl { x with ls:=x.ls++[s] } (.slice (some ⟨w3.size,0,none⟩) (x.ls.length+1) big)) 5)=w5∧SS b0 q w5 { x with ls:=x.ls++[s] } (.slice (some ⟨w3.size,0,none⟩) (x.ls.length+1) big):=by
 obtain ⟨w3,e3,x3,hs3,z3⟩:=lay1 w (.cells [.string s] 1)
 have S3:=S.more x3
 obtain ⟨w4,e4,own4,hs4,k4⟩:=ZdC (low:=low) (bytes:=16) (k:=1) (new:=[.string s]) (S3.own.keep hlow fun b hb _=>⟨rfl,hb⟩) (Nat.le_trans hlow S3.ext.1) Ya Ya Yn Ya Ya
 have hqv:vblk v≠some q:=S3.own.ne S3.g Ya
 have g4:w4.get q= .cells (hl x v) 5:=(k4 q S3.hq hqv).trans S3.g
 have hb3:=S3.ext.1
 have x4:Ext b0 w4:=by
  refine ⟨by omega,fun b hb=> ?_⟩
  rw [k4 b Ya,S3.ext.2 b hb]
  rcases S3.own with ⟨rfl,_,_⟩ | ⟨b',rfl,hlo,_,_,_⟩
  ·simp [vblk]
  ·intro hh
   simp only [vblk,Option.some.injEq] at hh
   omega
 have own5:Own b0.size w4 1 (.slice (some ⟨w3.size,0,none⟩) (x.ls.length+1) big) (x.ls.length+1) (sv (x.ls++[s])):=by
  rw [Zbb]
  rcases own4 with ⟨hh,_⟩ | ⟨b,hh,h6,h7,h8,h9⟩
  ·cases hh
  ·cases hh
   exact .inr ⟨w3.size,rfl,hb3,h7,h8,h9⟩
 obtain ⟨w5,e5,x5,hs5,g5,k5⟩:=put1 x4 S.lq (.cells (hl { x with ls:=x.ls++[s] } (.slice (some ⟨w3.size,0,none⟩) (x.ls.length+1) big)) 5)
 have hq3:=S3.hq
 refine ⟨w3,w4,w5,e3,z3,S3.g,e4,g4,e5,⟨x5,S.lq,by omega,g5,?_⟩⟩
 simp only [List.length_append,List.length_singleton]
 exact own5.keep (Nat.le_refl _) fun b hb hv=>⟨k5 b (fun e=>by
  simp only [vblk,Option.some.injEq] at hv
  omega),by omega⟩
theorem Zd5 (ys:List XT) (h:Heap) {a:Option Addr} {c:Nat} (s:Sl h 8 a ys.length c (xcs ys)) (hA:∀ x ∈ ys,Arr4 x.2) (hl:ys.length≤1000) (i:Nat):Runs K 65 #[.slice a ys.length c,.int .i64 (i:Int)] h fun r w=>r= .bool (nameAt (ys.map (·.1)) i)∧w=h:=by
 refine Runs.of Kok (Does.intro rfl Ye Tryz.func65 rfl ?_)
 by_cases hil:(i:Int) < ((ys.length:Nat):Int)
 ·obtain ⟨Y,hY⟩:∃ Y,ys[i]? =some Y:=⟨_,List.getElem?_eq_getElem Ya⟩
  obtain ⟨b1,o1,cs1,rfl,p2,p3,p4,_,_,_,_,p5⟩:=Sl.tok8 s hA rfl hY
  have j0:(0:Int)≤(i:Int):=Ya
  simp +decide only [go_sem,WR,WS,hil,j0,Int.toNat_natCast,p3,p4,Nat.add_zero]
  simp only [nameAt,isN,List.getElem?_map,hY,Option.map_some,and_true]
  rw [show decide (((Y.1.2.kind:Nat):Int)=2)=decide (Y.1.2.kind=2) from decide_eq_decide.2 Ya]
 ·have:ys[i]? =none:=List.getElem?_eq_none Ya
  simp +decide only [go_sem,WR,WS,hil]
  simp [nameAt,this]
end Go.Proofs.YtachkofbmodnnaaGreat.H6
