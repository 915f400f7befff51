/- Proved here: parts of the way to BEditBack (BH7 BH8 BH10); no condition beyond those that each theorem names. -/
import Derived.Test.YtachkofbmodnnaaGreatG18
set_option linter.unusedSimpArgs false
set_option linter.unusedVariables false
namespace Go.Im.Heads
open Go.Im.Lexing
theorem Zpc {ts:List (Nat × Tk)} (h:nameAt ts 0=false):resT ts=(E,ts):=by
 match ts,h with
 | [],_=>rfl
 | [a],_=>rfl
 | a::b::r,h =>
   simp only [nameAt,List.getElem?_cons_zero] at h
   simp [resT,h]
theorem Zpb {ts:List (Nat × Tk)} (h:ts.length≤1):resT ts=(E,ts):=by
 match ts,h with
 | [],_=>rfl
 | [a],_=>rfl
 | a::b::r,h=>simp at h
theorem Zpa {ts:List (Nat × Tk)} {b:Nat × Tk} (h:ts[1]? =some b) (hm:isM b.2 8592=false):resT ts=(E,ts):=by
 match ts,h with
 | a::b'::r,h =>
   simp at h
   subst h
   simp [resT,hm]
theorem Zo9 {ts:List (Nat × Tk)} {a b:Nat × Tk} (h0:ts[0]? =some a) (hn:nameAt ts 0=true) (h:ts[1]? =some b) (hm:isM b.2 8592=true):resT ts=(wd a,ts.drop 2):=by
 match ts,h0,h with
 | a'::b'::r,h0,h =>
   simp at h h0
   subst h h0
   simp only [nameAt,List.getElem?_cons_zero] at hn
   simp [resT,hm,hn]
theorem ZgC (x:HdT) {a:Nat × Tk} {us:List (Nat × Tk)} (h:isM a.2 59=false):Zcd x (a::us)=none:=by
 cases us with
 | nil=>rfl
 | cons b us=>rw [Zda,h];rfl
theorem ZgB (x:HdT) {a:Nat × Tk} {us:List (Nat × Tk)} (h:nameAt us 0=false):Zcd x (a::us)=none:=by
 cases us with
 | nil=>rfl
 | cons b us =>
   simp only [nameAt,List.getElem?_cons_zero] at h
   rw [Zda,h,Bool.and_false]
   rfl
theorem Zd4 (x:HdT):x.names.length≤3+x.ls.length:=by
 simp only [HdT.names,List.length_append]
 have:=List.length_filter_le (fun s=> !decide (s=E)) [x.re,x.le,x.ri]
 simp only [List.length_cons,List.length_nil] at this
 omega
end Go.Im.Heads
namespace Go.Proofs.YtachkofbmodnnaaGreat.H7
open Go Go.Im Go.Im.Limbs Go.Im.Lexing Go.Im.Heads Go.Proofs Go.RowKit Go.Sort Hd N18 N19 N23 N26 R8 R9 T0 H2 H3 H4 H5 H6
set_option maxRecDepth 100000
theorem Zj3 {low:Nat} {h:Heap} {size n b:Nat} {v:Value} {xs:List Value} (H:Own low h size v n xs) (hv:vblk v=some b):low≤b:=by
 rcases H with ⟨rfl,_⟩ | ⟨b',rfl,h1,_⟩
 ·simp [vblk] at hv
 ·simp only [vblk,Option.some.injEq] at hv
  omega
theorem tok8 {ys:List XT} {w:Heap} {a:Option Addr} {c:Nat} (s:Sl w 8 a ys.length c (xcs ys)) (hA:∀ x ∈ ys,Arr4 x.2) {ts:List (Nat × Tk)} (hts:ts=ys.map (·.1)) {i:Nat} (hi:i < ts.length) :
  ∃ Y b o cs,ys[i]? =some Y∧ts[i]? =some Y.1∧a=some ⟨b,o,none⟩∧b < w.size∧(w.get b).read= .cells cs 8∧cs[o+i*8+2]? =some (.string (wd Y.1))∧(cs.drop (o+i*8)).take 8=tc4 Y.1++Y.2∧o+i*8+8≤cs.length∧Arr4 Y.2:=by
 have hi':i < ys.length:=by rw [hts,List.length_map] at hi;exact hi
 obtain ⟨Y,hY⟩:∃ Y,ys[i]? =some Y:=⟨_,List.getElem?_eq_getElem hi'⟩
 have hYm:ts[i]? =some Y.1:=by rw [hts,List.getElem?_map,hY];rfl
 obtain ⟨b1,o1,cs1,rfl,p2,p3,p4,_,p5,p6,p7,p8⟩:=Sl.tok8 s hA rfl hY
 exact ⟨Y,b1,o1,cs1,hY,hYm,rfl,p2,p3,p5,p7,p8,hA Y (List.mem_of_getElem? hY)⟩
set_option maxHeartbeats 4000000 in
theorem ZkL (l:List Int) (h:Heap) {tv:Value} (t:Tx h tv l) (hm0:l.length≤9223372036854775807) :
  Runs K 38 #[tv] h fun r w=>∃ a c,r= .tuple #[.agg (hl (hdp l).1 (.slice a (hdp l).1.ls.length c)).toArray,.bool (hdp l).2]∧Sl w 1 a (hdp l).1.ls.length c (sv (hdp l).1.ls):=by
 obtain ⟨ta,tc,rfl⟩:=t.open
 refine Runs.of Kok (Does.intro rfl Ye Tryz.func38 rfl ?_)
 obtain ⟨w0,e0,x0,hs0,z0⟩:=lay1 h (.cells [.string ByteArray.empty,.string ByteArray.empty,.string ByteArray.empty,.string ByteArray.empty,.slice none 0 0] 5)
 have j0:h.size≤h.size:=Nat.le_refl _
 have fin0:∀ (w:Heap) (C:List Value),Ext h w→∃ w',w.set h.size (.cells C 5)=w'∧w'.get h.size= .cells C 5∧w'.size=w.size∧∀ b,b≠h.size→w'.get b=w.get b:=fun w C xw=>by
  obtain ⟨w1,e1,x1,hs1,g1,k1⟩:=put1 xw j0 (.cells C 5)
  exact ⟨w1,e1,g1,hs1,k1⟩
 simp +decide only [go_sem,WR,WS,e0]
 refine Zaa Kok x0.1 (Zg8 w0 (t.ext x0)) fun r w1 x1 hr=> ?_
 have x01:=x0.trans x1
 rcases hr with ⟨hlex,rfl⟩ | ⟨ys,a,c,hlex,hA,hyl,rfl,s1⟩
 ·have hp:hdp l=(hdZ,false):=by simp only [hdp,hlex]
  obtain ⟨w',ew,gw,_⟩:=fin0 w1 [.string ByteArray.empty,.string ByteArray.empty,.string ByteArray.empty,.string ByteArray.empty,.slice none 0 0] x01
  have z1:w1.get h.size=_:=(x1.2 _ Ya).trans z0
  simp +decide only [go_sem,WR,WS,z1,j0,ew,gw]
  rw [hp]
  exact ⟨none,0,rfl,Sl.nil _ _⟩
 have hm:=ZmA hlex
 obtain ⟨ts,hts⟩:∃ ts,ts=ys.map (·.1):=⟨_,rfl⟩
 have hlen:ts.length=ys.length:=by rw [hts,List.length_map]
 rw [← hts] at hlex
 have hbad:ZaV ts=none→hdp l=(hdZ,false):=fun hn=>by simp only [hdp,hlex,hn]
 obtain ⟨w2,e2,x2,hs2,z2⟩:=lay1 w1 (.cells [.string ByteArray.empty,.string ByteArray.empty,.string ByteArray.empty,.string ByteArray.empty,.slice none 0 0] 5)
 have S2:SS w1 w1.size w2 hdZ (.slice none 0 0):=⟨x2,Nat.le_refl _,by omega,z2,Own.nil _ _ _⟩
 have q1:h.size≤w1.size:=x01.1
 have q1':h.size < w1.size:=by have:=x1.1;omega
 have zz:∀ {w x v},SS w1 w1.size w x v→w.get h.size= .cells [.string ByteArray.empty,.string ByteArray.empty,.string ByteArray.empty,.string ByteArray.empty,.slice none 0 0] 5:=fun S=>(S.ext.2 _ q1').trans ((x1.2 _ Ya).trans z0)
 apply Za1 (α:=ByteArray × Nat) (fun k e w=>e.size=118∧SS w1 w1.size w ⟨E,k.1,E,E,[]⟩ (.slice none 0 0)∧e.get 2= .pointer (some ⟨h.size,0,none⟩)∧e.get 4= .slice a ys.length c∧e.get 6= .pointer (some ⟨w1.size,0,none⟩)∧e.get 7= .int .i64 (k.2:Int)∧k.2≤ts.length∧resT ts=(k.1,ts.drop k.2))
 ·intro cont
  simp +decide only [go_sem,WS]
  (rw [WR];simp +decide only [go_sem,WS])
  (rw [WR];simp +decide only [go_sem,WS,e2])
  (rw [WR];simp +decide only [go_sem,WS])
  have hnm:=Zd5 ys w2 (s1.ext x2) hA Ya 0
  rw [← hts] at hnm
  (rw [WR];simp +decide only [go_sem,WS])
  refine Zaa Kok (x01.trans x2).1 hnm fun r w' x hr=> ?_
  obtain ⟨rfl,hw⟩:=hr
  have hw:=hw.symm
  subst hw
  cases hn0:nameAt ts 0 with
  | false =>
    simp +decide only [go_sem,WS]
    exact cont (E,0) _ _ ⟨Yc,S2,Yc,Yc,Yc,by simp +decide only [go_sem];rfl,Nat.zero_le _,Zpc hn0⟩
  | true =>
  by_cases hl1:(1:Int) < ((ys.length:Nat):Int)
  case neg =>
   simp +decide only [go_sem,WS,hl1]
   exact cont (E,0) _ _ ⟨Yc,S2,Yc,Yc,Yc,by simp +decide only [go_sem];rfl,Nat.zero_le _,Zpb Ya⟩
  obtain ⟨Y,b,o,cs,hY,hYt,rfl,p2,p3,p5,p7,p8,hYA⟩:=tok8 (s1.ext x2) hA hts (i:=1) Ya
  rw [Nat.one_mul] at p5 p7 p8
  have c0:(0:Int)≤1:=Ya
  simp +decide only [go_sem,WS,hl1,c0,show Int.toNat 1=1 from rfl,Nat.one_mul,p3,p8,p7]
  refine Zaa Kok (x01.trans x2).1 (Zi4 Y.1 hYA 8592 w2) fun r w3 x3 hr=> ?_
  subst hr
  have S3:=S2.more x3
  cases hm8:isM Y.1.2 8592 with
  | false =>
    simp +decide only [go_sem,WS]
    exact cont (E,0) _ _ ⟨Yc,S3,Yc,Yc,Yc,by simp +decide only [go_sem];rfl,Nat.zero_le _,Zpa hYt hm8⟩
  | true =>
  obtain ⟨Z,b2,o2,cs2,hZ,hZt,hq,_,r3,r5,r7,r8,hZA⟩:=tok8 (s1.ext (x2.trans x3)) hA hts (i:=0) Ya
  cases hq
  rw [Nat.zero_mul,Nat.add_zero] at r5 r7 r8
  obtain ⟨w4,e4,S4,hs4⟩:=S3.put ⟨E,wd Z.1,E,E,[]⟩ rfl
  have g3:=S3.g
  simp only [hl,hdZ] at g3 e4
  have d1:(0:Int) < ((ys.length:Nat):Int):=Ya
  simp +decide only [go_sem,WS]
  (rw [WR];simp +decide only [go_sem,WS,show Int.toNat 0=0 from rfl,d1,Nat.zero_mul,Nat.add_zero,r3,r5,g3,q1,e4])
  (rw [WR];simp +decide only [go_sem,WS])
  refine cont (wd Z.1,2) _ _ ⟨Yc,S4,Yc,Yc,Yc,by simp +decide only [go_sem];rfl,by simp only;omega,Zo9 hZt hn0 hYt hm8⟩
 rintro ⟨re,at'⟩ e w ⟨hsz,S,g2,g4,g6,g7,hat,hres⟩
 simp only at S g7 hat hres
 obtain ⟨us,hus⟩:∃ us,us=ts.drop at':=⟨_,rfl⟩
 have hul:us.length=ys.length - at':=by rw [hus,List.length_drop,hlen]
 have hug:∀ i,us[i]? =ts[at'+i]? :=fun i=>by rw [hus,List.getElem?_drop]
 rw [← hus] at hres
 have sw:=s1.ext S.ext
 (rw [WR];simp +decide only [go_sem,WS,hsz])
 refine Zah (α:=Nat) (fun n e w'=>e.size=118∧w'=w∧e.get 2= .pointer (some ⟨h.size,0,none⟩)∧e.get 4= .slice a ys.length c∧e.get 6= .pointer (some ⟨w1.size,0,none⟩)∧e.get 7= .int .i64 (at':Int)∧e.get 8= .int .i64 (n:Int)∧n≤us.length∧us.takeWhile isN=us.take n++(us.drop n).takeWhile isN) (fun n=>us.length - n) 0 ?_ ?_
 ·exact ⟨Yb,rfl,Yt,YP,Yv,Y5,by simp +decide only [go_sem,hsz];rfl,Nat.zero_le _,by simp⟩
 rintro n e w' ⟨hsz,hw,g2,g4,g6,g7,g8,hn,htw⟩ next
 subst hw
 have hnm:=Zd5 ys w' sw hA Ya (at'+n)
 rw [← hts] at hnm
 have i1:IntKind.i64.wrap ((at':Int)+(n:Int))=((at'+n:Nat):Int):=Yd
 simp +decide only [go_sem,WR,WS,hsz,g4,g7,g8,i1]
 refine Zaa Kok (x01.trans S.ext).1 hnm fun r w2' x hr=> ?_
 obtain ⟨rfl,hw⟩:=hr
 have hw:=hw.symm
 subst hw
 cases hna:nameAt ts (at'+n) with
 | true =>
   obtain ⟨t0,ht0⟩:∃ t0,us[n]? =some t0:=by
    rw [hug]
    simp only [nameAt] at hna
    split at hna
    ·rename_i t0 h0
     exact ⟨t0,h0⟩
    ·cases hna
   have ht0N:isN t0=true:=by
    rw [hug] at ht0
    simpa only [nameAt,ht0] using hna
   obtain ⟨hnl,hng⟩:=List.getElem?_eq_some_iff.1 ht0
   have i2:IntKind.i64.wrap ((n:Int)+1)=((n+1:Nat):Int):=Yd
   simp +decide only [go_sem,WR,WS,hsz,g8,i2]
   refine next (n+1) _ _ ⟨Yb,rfl,Yt,YP,Yv,Y5,Yb,by omega,?_⟩ Ya
   rw [htw,List.drop_eq_getElem_cons hnl,hng,List.takeWhile_cons_of_pos ht0N,List.take_add_one,ht0]
   simp
 | false =>
 have hk:us.takeWhile isN=us.take n:=by
  rw [htw]
  have:(us.drop n).takeWhile isN=[]:=by
   cases hd:us.drop n with
   | nil=>rfl
   | cons t0 r =>
     have h0:us[n]? =some t0:=by
      have:=congrArg (fun z=>z[0]?) hd
      simpa using this
     rw [hug] at h0
     simp only [nameAt,h0] at hna
     rw [List.takeWhile_cons_of_neg (by simp [hna])]
  rw [this,List.append_nil]
 simp +decide only [go_sem,WS,hsz]
 have zero:∀ {w':Heap} {x:HdT} {v:Value},SS w1 w1.size w' x v→∃ w'',w'.set h.size (.cells [.string ByteArray.empty,.string ByteArray.empty,.string ByteArray.empty,.string ByteArray.empty,.slice none 0 0] 5)=w''∧w''.get h.size= .cells [.string ByteArray.empty,.string ByteArray.empty,.string ByteArray.empty,.string ByteArray.empty,.slice none 0 0] 5:=fun S=>by
  obtain ⟨w'',e1,e2,_⟩:=fin0 _ [.string ByteArray.empty,.string ByteArray.empty,.string ByteArray.empty,.string ByteArray.empty,.slice none 0 0] (x01.trans S.ext)
  exact ⟨w'',e1,e2⟩
 apply Za1 (α:=HdT × Nat) (fun k e w=>e.size=118∧SS w1 w1.size w k.1 (.slice none 0 0)∧k.1.ls=[]∧e.get 2= .pointer (some ⟨h.size,0,none⟩)∧e.get 4= .slice a ys.length c∧e.get 6= .pointer (some ⟨w1.size,0,none⟩)∧e.get 7= .int .i64 (k.2:Int)∧k.2≤ts.length∧ZaV ts=Zcd k.1 (ts.drop k.2))
 ·intro cont
  have zS:=zz S
  have sg:=S.g
  simp only [hl] at sg
  by_cases hn1:(n:Int) < 1
  ·have hp:=hbad (ZeF hres hk hn (.inl Ya))
   obtain ⟨w'',ew,gw⟩:=zero S
   simp +decide only [go_sem,WR,WS,hsz,g2,g8,hn1,zS,j0,ew,gw]
   rw [hp]
   exact ⟨none,0,rfl,Sl.nil _ _⟩
  by_cases hn3:(3:Int) < (n:Int)
  ·have hp:=hbad (ZeF hres hk hn (.inr Ya))
   obtain ⟨w'',ew,gw⟩:=zero S
   simp +decide only [go_sem,WR,WS,hsz,g2,g8,hn1,hn3,zS,j0,ew,gw]
   rw [hp]
   exact ⟨none,0,rfl,Sl.nil _ _⟩
  obtain ⟨A,ba,oa,ca,hA0,hAt,rfl,_,a3,a5,_,_,_⟩:=tok8 sw hA hts (i:=at') Ya
  have hbl:ba < w1.size:=by
   obtain ⟨_,_,_,_,_,_,hq,hb,_⟩:=tok8 s1 hA hts (i:=at') Ya
   cases hq
   exact hb
  have j1:(0:Int)≤(at':Int):=Ya
  have j2:(at':Int) < ((ys.length:Nat):Int):=Ya
  have u1:IntKind.i64.wrap ((at':Int)+1)=((at'+1:Nat):Int):=Yd
  have hu0:us[0]? =some A.1:=by rw [hug];exact hAt
  have hcase:n=1∨n=2∨n=3:=Ya
  rcases hcase with rfl | rfl | rfl
  ·have g8':e.get 8= .int .i64 1:=g8
   obtain ⟨w5,e5,S5,hs5⟩:=S.put ⟨wd A.1,re,E,E,[]⟩ rfl
   simp only [hl] at e5
   (rw [WR];simp +decide only [go_sem,WS,hsz,g8'])
   (rw [WR];simp +decide only [go_sem,WS,hsz,g8'])
   (rw [WR];simp +decide only [go_sem,WS,hsz,g4,g6,g7,j1,j2,Int.toNat_natCast,a3,a5,sg,q1,e5])
   (rw [WR];simp +decide only [go_sem,WS,hsz,g7,u1])
   (rw [WR];simp +decide only [go_sem,WS,hsz,g8'])
   refine cont (⟨wd A.1,re,E,E,[]⟩,at'+1) _ _ ⟨Yb,S5,rfl,Yt,YP,Yv,by simp +decide only [go_sem,hsz,u1],by simp only;omega,?_⟩
   rw [ZkS hres hk hu0,hus,List.drop_drop]
  ·have g8':e.get 8= .int .i64 2:=g8
   obtain ⟨B,bb,ob,cb,hB0,hBt,hq,_,b3,b5,_,_,_⟩:=tok8 sw hA hts (i:=at'+1) Ya
   cases hq
   have i2:IntKind.i64.wrap (((at'+1:Nat):Int)+1)=((at'+2:Nat):Int):=Yd
   have k1:(0:Int)≤((at'+1:Nat):Int):=Ya
   have k2:((at'+1:Nat):Int) < ((ys.length:Nat):Int):=Ya
   have hu1:us[1]? =some B.1:=by rw [hug];exact hBt
   obtain ⟨w5,e5,S5,hs5⟩:=S.put ⟨wd A.1,re,E,E,[]⟩ rfl
   have sg5:=S5.g
   obtain ⟨w6,e6,S6,hs6⟩:=S5.put ⟨wd A.1,re,E,wd B.1,[]⟩ rfl
   simp only [hl] at e5 sg5 e6
   have b3':(w5.get ba).read= .cells cb 8:=by
    have h1:(w5.get ba).read=(w'.get ba).read:=by rw [S5.ext.2 _ hbl,S.ext.2 _ hbl]
    rw [h1]
    exact b3
   (rw [WR];simp +decide only [go_sem,WS,hsz,g8'])
   (rw [WR];simp +decide only [go_sem,WS,hsz,g8'])
   (rw [WR];simp +decide only [go_sem,WS,hsz,g4,g6,g7,j1,j2,Int.toNat_natCast,a3,a5,sg,q1,e5])
   (rw [WR];simp +decide only [go_sem,WS,hsz,g7,u1])
   (rw [WR];simp +decide only [go_sem,WS,hsz,g8'])
   (rw [WR];simp +decide only [go_sem,WS,hsz,g4,g6,k1,k2,u1,Int.toNat_natCast,b3',b5,sg5,q1,e6])
   (rw [WR];simp +decide only [go_sem,WS,hsz,u1,i2])
   refine cont (⟨wd A.1,re,E,wd B.1,[]⟩,at'+2) _ _ ⟨Yb,S6,rfl,Yt,YP,Yv,by simp +decide only [go_sem,hsz,u1,i2],by simp only;omega,?_⟩
   rw [ZkR hres hk hu0 hu1,hus,List.drop_drop]
  ·have g8':e.get 8= .int .i64 3:=g8
   obtain ⟨B,bb,ob,cb,hB0,hBt,hq,_,b3,b5,_,_,_⟩:=tok8 sw hA hts (i:=at'+1) Ya
   cases hq
   have i2:IntKind.i64.wrap (((at'+1:Nat):Int)+1)=((at'+2:Nat):Int):=Yd
   have k1:(0:Int)≤((at'+1:Nat):Int):=Ya
   have k2:((at'+1:Nat):Int) < ((ys.length:Nat):Int):=Ya
   have hu1:us[1]? =some B.1:=by rw [hug];exact hBt
   obtain ⟨C,bc,oc,cc,hC0,hCt,hq,_,c3,c5,_,_,_⟩:=tok8 sw hA hts (i:=at'+2) Ya
   cases hq
   have i3:IntKind.i64.wrap (((at'+2:Nat):Int)+1)=((at'+3:Nat):Int):=Yd
   have m1:(0:Int)≤((at'+2:Nat):Int):=Ya
   have m2:((at'+2:Nat):Int) < ((ys.length:Nat):Int):=Ya
   have hu2:us[2]? =some C.1:=by rw [hug];exact hCt
   obtain ⟨w5,e5,S5,hs5⟩:=S.put ⟨E,re,wd A.1,E,[]⟩ rfl
   have sg5:=S5.g
   obtain ⟨w6,e6,S6,hs6⟩:=S5.put ⟨wd B.1,re,wd A.1,E,[]⟩ rfl
   have sg6:=S6.g
   obtain ⟨w7,e7,S7,hs7⟩:=S6.put ⟨wd B.1,re,wd A.1,wd C.1,[]⟩ rfl
   simp only [hl] at e5 sg5 e6 sg6 e7
   have b3':(w5.get ba).read= .cells cb 8:=by
    have h1:(w5.get ba).read=(w'.get ba).read:=by rw [S5.ext.2 _ hbl,S.ext.2 _ hbl]
    rw [h1]
    exact b3
   have c3':(w6.get ba).read= .cells cc 8:=by
    have h1:(w6.get ba).read=(w'.get ba).read:=by rw [S6.ext.2 _ hbl,S.ext.2 _ hbl]
    rw [h1]
    exact c3
   (rw [WR];simp +decide only [go_sem,WS,hsz,g8'])
   (rw [WR];simp +decide only [go_sem,WS,hsz,g8'])
   (rw [WR];simp +decide only [go_sem,WS,hsz,g4,g6,g7,j1,j2,Int.toNat_natCast,a3,a5,sg,q1,e5])
   (rw [WR];simp +decide only [go_sem,WS,hsz,g7,u1])
   (rw [WR];simp +decide only [go_sem,WS,hsz,g4,g6,k1,k2,u1,Int.toNat_natCast,b3',b5,sg5,q1,e6])
   (rw [WR];simp +decide only [go_sem,WS,hsz,u1,i2])
   (rw [WR];simp +decide only [go_sem,WS,hsz,g8'])
   (rw [WR];simp +decide only [go_sem,WS,hsz,g4,g6,m1,m2,u1,i2,Int.toNat_natCast,c3',c5,sg6,q1,e7])
   (rw [WR];simp +decide only [go_sem,WS,hsz,u1,i2,i3])
   refine cont (⟨wd B.1,re,wd A.1,wd C.1,[]⟩,at'+3) _ _ ⟨Yb,S7,rfl,Yt,YP,Yv,by simp +decide only [go_sem,hsz,u1,i2,i3],by simp only;omega,?_⟩
   rw [Zh5 hres hk hu0 hu1 hu2,hus,List.drop_drop]
 rintro ⟨x,p⟩ e w3 ⟨hsz,T,hx0,g2,g4,g6,g7,hp,hps⟩
 simp only at T hx0 g7 hp hps
 refine Zah (α:=HdT × Value × Nat) (fun k e w=>e.size=118∧SS w1 w1.size w k.1 k.2.1∧e.get 2= .pointer (some ⟨h.size,0,none⟩)∧e.get 4= .slice a ys.length c∧e.get 6= .pointer (some ⟨w1.size,0,none⟩)∧e.get 7= .int .i64 (k.2.2:Int)∧k.2.2≤ts.length∧ZaV ts=Zcd k.1 (ts.drop k.2.2)∧k.1.ls.length≤k.2.2) (fun k=>ts.length - k.2.2) (x,.slice none 0 0,p) ?_ ?_
 ·exact ⟨hsz,T,g2,g4,g6,g7,hp,hps,by rw [hx0];exact Nat.zero_le _⟩
 clear hsz T hx0 g2 g4 g6 g7 hp hps
 rintro ⟨x,v,p⟩ e w ⟨hsz,T,g2,g4,g6,g7,hp,hps,hxl⟩ next
 simp only at T g7 hp hps hxl
 have st:=s1.ext T.ext
 have zT:=zz T
 have tg:=T.g
 obtain ⟨va,vc,rfl⟩:=T.own.shape
 by_cases hc:(p:Int) < ((ys.length:Nat):Int)
 ·obtain ⟨A,ba,oa,ca,hA0,hAt,rfl,_,a3,a5,a7,a8,hAA⟩:=tok8 st hA hts (i:=p) Ya
  have hbl:ba < w1.size:=by
   obtain ⟨_,_,_,_,_,_,hq,hb,_⟩:=tok8 s1 hA hts (i:=p) Ya
   cases hq
   exact hb
  have j1:(0:Int)≤(p:Int):=Ya
  have hd:ts.drop p=A.1::ts.drop (p+1):=by
   obtain ⟨h1,h2⟩:=List.getElem?_eq_some_iff.1 hAt
   rw [← h2]
   exact List.drop_eq_getElem_cons h1
  rw [hd] at hps
  simp +decide only [go_sem,WR,WS,hsz,g4,g7,hc,j1,Int.toNat_natCast,a3,a8,a7]
  refine Zaa Kok (x01.trans T.ext).1 (Zi4 A.1 hAA 59 w) fun r w4 x4 hr=> ?_
  subst hr
  have T4:=T.more x4
  have z4:=zz T4
  have i1:IntKind.i64.wrap ((p:Int)+1)=((p+1:Nat):Int):=Yd
  cases hm:isM A.1.2 59 with
  | false =>
    rw [ZgC _ hm] at hps
    obtain ⟨w'',ew,gw⟩:=zero T4
    simp +decide only [go_sem,WR,WS,hsz,g2,z4,j0,ew,gw]
    rw [hbad hps]
    exact ⟨none,0,rfl,Sl.nil _ _⟩
  | true =>
  have hnm:=Zd5 ys w4 (s1.ext T4.ext) hA Ya (p+1)
  rw [← hts] at hnm
  simp +decide only [go_sem,WR,WS,hsz,g4,g7,i1]
  refine Zaa Kok (x01.trans T4.ext).1 hnm fun r w5 _ hr=> ?_
  obtain ⟨rfl,hw⟩:=hr
  have hw:=hw.symm
  subst hw
  cases hna:nameAt ts (p+1) with
  | false =>
    have hn':nameAt (ts.drop (p+1)) 0=false:=by
     simp only [nameAt,List.getElem?_drop,Nat.add_zero] at hna ⊢
     exact hna
    rw [ZgB _ hn'] at hps
    obtain ⟨w'',ew,gw⟩:=zero T4
    simp +decide only [go_sem,WR,WS,hsz,g2,z4,j0,ew,gw]
    rw [hbad hps]
    exact ⟨none,0,rfl,Sl.nil _ _⟩
  | true =>
  have hp1:p+1 < ts.length:=by
   simp only [nameAt] at hna
   split at hna
   ·rename_i h0
    exact (List.getElem?_eq_some_iff.1 h0).1
   ·cases hna
  obtain ⟨B,bb,ob,cb,hB0,hBt,hq,_,b3,b5,b7,b8,hBA⟩:=tok8 (s1.ext T4.ext) hA hts (i:=p+1) hp1
  cases hq
  have hBN:isN B.1=true:=by simpa only [nameAt,hBt] using hna
  have hd2:ts.drop (p+1)=B.1::ts.drop (p+2):=by
   obtain ⟨h1,h2⟩:=List.getElem?_eq_some_iff.1 hBt
   rw [← h2]
   exact List.drop_eq_getElem_cons h1
  rw [hd2,Zda,hm,hBN,Bool.and_self,if_pos rfl] at hps
  have k1:(0:Int)≤((p+1:Nat):Int):=Ya
  have k2:((p+1:Nat):Int) < ((ys.length:Nat):Int):=Ya
  have i2:IntKind.i64.wrap ((p:Int)+2)=((p+2:Nat):Int):=Yd
  obtain ⟨u3,u4,u5,f3,fz3,fg3,f4,fg4,f5,T5⟩:=T4.app (low:=h.size) q1 (wd B.1) Ya
  have tg4:=T4.g
  simp only [hl] at tg4 fg3 fg4 f5
  simp +decide only [go_sem,WR,WS,hsz,g4,g6,g7,i1,k1,k2,Int.toNat_natCast,b3,b5,tg4,f3,fz3,f4,fg4,q1,f5,i2]
  exact next ({ x with ls:=x.ls++[wd B.1] },_,p+2) _ _ ⟨Yb,T5,Yt,YP,Yv,Yb,by simp only;omega,hps,by simp only [List.length_append,List.length_singleton];omega⟩ Yj
 ·have hpe:ts.drop p=[]:=List.drop_of_length_le Ya
  rw [hpe,Zh3] at hps
  simp only [hl] at tg
  simp +decide only [go_sem,WR,WS,hsz,g4,g6,g7,hc,tg]
  refine Zaa Kok (x01.trans T.ext).1 (ZgA x w T.own.sl Ya) fun r w4 x4 hr=> ?_
  obtain ⟨na,nc,rfl⟩:=hr.shape
  have T4:=T.more x4
  have tg4:=T4.g
  have hxn:=Zd4 x
  obtain ⟨w5,e5,x5,hs5,z5⟩:=lay1 w4 (.cells [.string x.nm] 1)
  have hlow:h.size≤w.size:=(x01.trans T.ext).1
  obtain ⟨w6,e6,own6,hs6,x6⟩:=ZcL (low:=h.size) (s:=x.nm) hlow (x4.trans x5) (hr.ext x5) Ya
  have T6:=T.more x6
  have tg6:=T6.g
  have z6:=zz T6
  have hal:x.all.length=x.names.length+1:=by simp [HdT.all]
  have own6':Own w.size w6 1 (.slice (some ⟨w5.size,0,none⟩) (x.names.length+1) big) (x.names.length+1) (sv x.all):=own6
  have hap:=ZnA x.all w6 (a:=some ⟨w5.size,0,none⟩) (c:=big) (by rw [hal];exact own6'.sl) Ya
  rw [hal] at hap
  simp only [hl] at tg4 tg6
  simp +decide only [go_sem,WR,WS,hsz,g6,tg4,e5,z5,e6]
  refine Zaa Kok (x01.trans T6.ext).1 hap fun r w7 x7 hr2=> ?_
  obtain ⟨rfl,hw⟩:=hr2
  have hw:=hw.symm
  subst hw
  by_cases hnd:x.all.Nodup
  ·have hp2:hdp l=(x,true):=by simp only [hdp,hlex,hps,fin,if_pos hnd]
   obtain ⟨w8,e8,g8,hs8,k8⟩:=fin0 w6 [.string x.nm,.string x.re,.string x.le,.string x.ri,.slice va x.ls.length vc] (x01.trans T6.ext)
   have hdt:decide x.all.Nodup=true:=decide_eq_true hnd
   simp +decide only [go_sem,WR,WS,hsz,g2,g6,hdt,tg6,z6,j0,e8,g8]
   rw [hp2]
   refine ⟨va,vc,rfl,?_⟩
   exact (T6.own.keep (Nat.le_refl _) fun b hb hv=>⟨k8 b (by have:=Zj3 T6.own hv;omega),by omega⟩).sl
  ·have hp2:ZaV ts=none:=by rw [hps,fin,if_neg hnd]
   obtain ⟨w'',ew,gw⟩:=zero T6
   have hdf:decide x.all.Nodup=false:=decide_eq_false hnd
   simp +decide only [go_sem,WR,WS,hsz,g2,g6,hdf,z6,j0,ew,gw]
   rw [hbad hp2]
   exact ⟨none,0,rfl,Sl.nil _ _⟩
end Go.Proofs.YtachkofbmodnnaaGreat.H7
namespace Go.Im.Heads
open Go.Im.Lexing
theorem Zkk {re:ByteArray} {ns:List ByteArray} {x:HdT} (h:Zgn re ns []=some x) (ls:List ByteArray):Zgn re ns ls=some { x with ls:=ls }∧x.ls=[]:=by
 match ns,h with
 | [a],h=>cases h;exact ⟨rfl,rfl⟩
 | [a,b],h=>cases h;exact ⟨rfl,rfl⟩
 | [a,b,c],h=>cases h;exact ⟨rfl,rfl⟩
theorem Zmb {ts us:List (Nat × Tk)} {re:ByteArray} {x:HdT} (hr:resT ts=(re,us)) (h:Zgn re ((us.takeWhile isN).map wd) []=some x):ZaV ts=Zcd x (us.drop ((us.takeWhile isN).map wd).length):=by
 unfold ZaV Zcd
 simp only [hr]
 cases locT (us.drop ((us.takeWhile isN).map wd).length) with
 | none=>rfl
 | some ls =>
   have h2:=(Zkk h ls).1
   simp only [h2,(Zkk h []).2,List.nil_append]
   rfl
theorem Zmc {ts us:List (Nat × Tk)} {re:ByteArray} (hr:resT ts=(re,us)) (h:((us.takeWhile isN).map wd).length < 1∨3 < ((us.takeWhile isN).map wd).length):ZaV ts=none:=by
 have hk:us.takeWhile isN=us.take (us.takeWhile isN).length:=(List.prefix_iff_eq_take.1 (List.takeWhile_prefix isN))
 exact ZeF hr hk (List.takeWhile_prefix isN).length_le YO
theorem four (ns:List ByteArray):ns=[]∨(∃ f,ns=[f])∨(∃ f b,ns=[f,b])∨(∃ a f b,ns=[a,f,b])∨3 < ns.length:=by
 match ns with
 | []=>exact .inl rfl
 | [f]=>exact .inr (.inl ⟨f,rfl⟩)
 | [f,b]=>exact .inr (.inr (.inl ⟨f,b,rfl⟩))
 | [a,f,b]=>exact .inr (.inr (.inr (.inl ⟨a,f,b,rfl⟩)))
 | _::_::_::_::r=>exact .inr (.inr (.inr (.inr Yp)))
end Go.Im.Heads
namespace Go.Proofs.YtachkofbmodnnaaGreat.H8
open Go Go.Im Go.Im.Limbs Go.Im.Lexing Go.Im.Heads Go.Proofs Go.RowKit Go.Sort Hd N18 N19 N23 N26 R8 R9 T0 H2 H3 H4 H5 H6 H7
set_option maxRecDepth 100000
theorem ZjG:∀ {zs:List XT} {k:Nat},(∀ z ∈ zs,Arr5 z.2)→(xcs zs).drop (k*9)=xcs (zs.drop k)
 | [],k,_=>by simp [xcs]
 | z::zs,0,_=>by simp
 | z::zs,k+1,hA=>by
   have h1:=Zg3 (hA z Yp)
   have h2:=ZjG (zs:=zs) (k:=k) (fun y hy=>hA y (by simp [hy]))
   have:(k+1)*9=9+k*9:=by omega
   rw [this,← List.drop_drop]
   simp only [xcs,List.flatMap_cons,List.drop_succ_cons] at h2 ⊢
   rw [← h2,← h1,List.drop_left']
   rfl
theorem Zlq:∀ {zs:List XT},(∀ z ∈ zs,Arr5 z.2)→(xcs zs).length=zs.length*9
 | [],_=>rfl
 | z::zs,hA=>by
   have h1:=Zg3 (hA z Yp)
   have h2:=Zlq (zs:=zs) (fun y hy=>hA y (by simp [hy]))
   simp only [xcs,List.flatMap_cons,List.length_append,List.length_cons] at h1 h2 ⊢
   omega
theorem cut9 {h w:Heap} (k:Ext h w) {zs:List XT} {a:Option Addr} {c:Nat} (s:Sl h 9 a zs.length c (xcs zs)) (hA:∀ z ∈ zs,Arr5 z.2) {m:Nat} (hm:m≤zs.length) :
  ∃ a' c',irsl (some (.slice 9)) w a zs.length c (some (.int .i64 (m:Int))) none none=some (.slice a' (zs.length - m) c')∧Sl h 9 a' (zs.drop m).length c' (xcs (zs.drop m)):=by
 obtain ⟨a',c',h1,h2⟩:=Sl.cut k Ya s (lo:=some (.int .i64 (m:Int))) (hi:=none) (l:=m) (u:=zs.length) YF rfl hm (Nat.le_refl _)
 refine ⟨a',c',h1,?_⟩
 rw [ZjG hA] at h2
 have hlen:=Zlq (zs:=zs.drop m) (fun y hy=>hA y (List.mem_of_mem_drop hy))
 rw [List.length_drop] at hlen
 rw [List.take_of_length_le Ya] at h2
 rw [List.length_drop]
 exact h2
theorem tok9 {zs:List XT} {w:Heap} {a:Option Addr} {c:Nat} (s:Sl w 9 a zs.length c (xcs zs)) (hA:∀ x ∈ zs,Arr5 x.2) {i:Nat} (hi:i < zs.length) :
  ∃ Y b o cs,zs[i]? =some Y∧a=some ⟨b,o,none⟩∧b < w.size∧(w.get b).read= .cells cs 9∧cs[o+i*9]? =some (.int .i64 (Y.1.2.kind:Int))∧cs[o+i*9+2]? =some (.string (wd Y.1))∧(cs.drop (o+i*9)).take 9=tc4 Y.1++Y.2∧o+i*9+9≤cs.length∧Arr5 Y.2:=by
 obtain ⟨Y,hY⟩:∃ Y,zs[i]? =some Y:=⟨_,List.getElem?_eq_getElem hi⟩
 obtain ⟨b1,o1,cs1,rfl,p2,p3,p4,_,p5,p6,p7,p8⟩:=Sl.tok s hA rfl hY
 exact ⟨Y,b1,o1,cs1,hY,rfl,p2,p3,p4,p5,p7,p8,hA Y (List.mem_of_getElem? hY)⟩
theorem Zpf {low:Nat} {h:Heap} {size n b:Nat} {v:Value} {xs:List Value} (H:Own low h size v n xs) (hv:vblk v=some b):b < h.size:=by
 rcases H with ⟨rfl,_⟩ | ⟨b',rfl,h1,h2,_⟩
 ·simp [vblk] at hv
 ·simp only [vblk,Option.some.injEq] at hv
  omega
theorem SS.other {b0 w w':Heap} {q:Nat} {x:HdT} {v:Value} (S:SS b0 q w x v) (hs:w'.size=w.size) {d:Nat} (hd:b0.size≤d) (hdq:d≠q) (hdv:vblk v≠some d) (k:∀ b,b≠d→w'.get b=w.get b):SS b0 q w' x v :=
 ⟨⟨by rw [hs];exact S.ext.1,fun b hb=>(k b Ya).trans (S.ext.2 b hb)⟩,S.lq,by rw [hs];exact S.hq,(k q (fun e=>hdq e.symm)).trans S.g,S.own.keep (Nat.le_refl _) fun b hb hv=>⟨k b (fun e=>hdv (by rw [hv,e])),by omega⟩⟩
theorem Zoh (ss:List (List UInt8)):(mkS ss).map (·.data.toList)=ss:=by
 induction ss with
 | nil=>rfl
 | cons s ss ih=>rw [show mkS (s::ss)=⟨s.toArray⟩::mkS ss from rfl,List.map_cons,ih]
theorem ZnC (x:HdT):(x.all.map (·.data.toList)).Nodup↔x.all.Nodup:=by
 rw [List.Nodup,List.Nodup,List.pairwise_map]
 constructor
 ·intro h
  exact h.imp fun hab e=>hab (by rw [e])
 ·intro h
  exact h.imp fun hab e=>hab (by
   rename_i a b
   cases a
   cases b
   simpa using e)
set_option maxHeartbeats 4000000 in
theorem Zd0 (l:List Int) (h:Heap) {tv:Value} (t:Tx h tv l) (hm0:l.length≤9223372036854775807) :
  Runs K 36 #[tv] h fun r w=>∃ a c,r= .tuple #[.agg (hl (hdp l).1 (.slice a (hdp l).1.ls.length c)).toArray,.bool (hdp l).2]∧Sl w 1 a (hdp l).1.ls.length c (sv (hdp l).1.ls):=by
 obtain ⟨ta,tc,rfl⟩:=t.open
 refine Runs.of Kok (Does.intro rfl Ye Tryz.func36 rfl ?_)
 obtain ⟨w0,e0,x0,hs0,z0⟩:=lay1 h (.cells [.string ByteArray.empty,.string ByteArray.empty,.string ByteArray.empty,.string ByteArray.empty,.slice none 0 0] 5)
 have j0:h.size≤h.size:=Nat.le_refl _
 have fin0:∀ (w:Heap) (C:List Value),Ext h w→∃ w',w.set h.size (.cells C 5)=w'∧w'.get h.size= .cells C 5∧w'.size=w.size∧∀ b,b≠h.size→w'.get b=w.get b:=fun w C xw=>by
  obtain ⟨w1,e1,x1,hs1,g1,k1⟩:=put1 xw j0 (.cells C 5)
  exact ⟨w1,e1,g1,hs1,k1⟩
 simp +decide only [go_sem,WR,WS,e0]
 refine Zaa Kok x0.1 (Zhm w0 (t.ext x0)) fun r w1 x1 hr=> ?_
 have x01:=x0.trans x1
 rcases hr with ⟨hlex,rfl⟩ | ⟨xs,a,c,hlex,hA,hxl,rfl,s1⟩
 ·have hp:hdp l=(hdZ,false):=by simp only [hdp,hlex]
  obtain ⟨w',ew,gw,_⟩:=fin0 w1 [.string ByteArray.empty,.string ByteArray.empty,.string ByteArray.empty,.string ByteArray.empty,.slice none 0 0] x01
  have z1:w1.get h.size=_:=(x1.2 _ Ya).trans z0
  simp +decide only [go_sem,WR,WS,z1,j0,ew,gw]
  rw [hp]
  exact ⟨none,0,rfl,Sl.nil _ _⟩
 have hm:=ZmA hlex
 obtain ⟨ts,hts⟩:∃ ts,ts=xs.map (·.1):=⟨_,rfl⟩
 have hlen:ts.length=xs.length:=by rw [hts,List.length_map]
 rw [← hts] at hlex
 have hbad:ZaV ts=none→hdp l=(hdZ,false):=fun hn=>by simp only [hdp,hlex,hn]
 obtain ⟨w2,e2,x2,hs2,z2⟩:=lay1 w1 (.cells [.string ByteArray.empty,.string ByteArray.empty,.string ByteArray.empty,.string ByteArray.empty,.slice none 0 0] 5)
 have S2:SS w1 w1.size w2 hdZ (.slice none 0 0):=⟨x2,Nat.le_refl _,by omega,z2,Own.nil _ _ _⟩
 have q1:h.size≤w1.size:=x01.1
 have q1':h.size < w1.size:=by have:=x1.1;omega
 have zz:∀ {w x v},SS w1 w1.size w x v→w.get h.size= .cells [.string ByteArray.empty,.string ByteArray.empty,.string ByteArray.empty,.string ByteArray.empty,.slice none 0 0] 5:=fun S=>(S.ext.2 _ q1').trans ((x1.2 _ Ya).trans z0)
 have zero:∀ {w':Heap} {x:HdT} {v:Value},SS w1 w1.size w' x v→∃ w'',w'.set h.size (.cells [.string ByteArray.empty,.string ByteArray.empty,.string ByteArray.empty,.string ByteArray.empty,.slice none 0 0] 5)=w''∧w''.get h.size= .cells [.string ByteArray.empty,.string ByteArray.empty,.string ByteArray.empty,.string ByteArray.empty,.slice none 0 0] 5:=fun S=>by
  obtain ⟨w'',e1,e2,_⟩:=fin0 _ [.string ByteArray.empty,.string ByteArray.empty,.string ByteArray.empty,.string ByteArray.empty,.slice none 0 0] (x01.trans S.ext)
  exact ⟨w'',e1,e2⟩
 apply Za1 (α:=ByteArray × List XT × Option Addr × Nat) (fun k e w=>e.size=128∧SS w1 w1.size w ⟨E,k.1,E,E,[]⟩ (.slice none 0 0)∧e.get 2= .pointer (some ⟨h.size,0,none⟩)∧e.get 4= .slice k.2.2.1 k.2.1.length k.2.2.2∧e.get 6= .pointer (some ⟨w1.size,0,none⟩)∧Sl w1 9 k.2.2.1 k.2.1.length k.2.2.2 (xcs k.2.1)∧(∀ z ∈ k.2.1,Arr5 z.2)∧k.2.1.length≤600∧resT ts=(k.1,k.2.1.map (·.1)))
 ·intro cont
  simp +decide only [go_sem,WS]
  (rw [WR];simp +decide only [go_sem,WS])
  (rw [WR];simp +decide only [go_sem,WS,e2])
  by_cases hl1:(1:Int) < ((xs.length:Nat):Int)
  case neg =>
   (rw [WR];simp +decide only [go_sem,WS,hl1])
   exact cont (E,xs,a,c) _ _ ⟨Yc,S2,Yc,Yc,Yc,s1,hA,by simp only;omega,by rw [Zpb Ya,hts]⟩
  obtain ⟨Z,b,o,cs,hZ,rfl,_,r3,r4,r5,r7,r8,hZA⟩:=tok9 (s1.ext x2) hA (i:=0) Ya
  rw [Nat.zero_mul,Nat.add_zero] at r4 r5 r7 r8
  have hZt:ts[0]? =some Z.1:=by rw [hts,List.getElem?_map,hZ];rfl
  have d0:(0:Int) < ((xs.length:Nat):Int):=Ya
  by_cases hk:Z.1.2.kind=2
  case neg =>
   have hk':¬ ((Z.1.2.kind:Nat):Int)=2:=Ya
   (rw [WR];simp +decide only [go_sem,WS,hl1,d0,show Int.toNat 0=0 from rfl,Nat.zero_mul,Nat.add_zero,r3,r4,hk'])
   exact cont (E,xs,_,c) _ _ ⟨Yc,S2,Yc,Yc,Yc,s1,hA,by simp only;omega,by rw [Zpc (by simp [nameAt,hZt,isN,hk]),hts]⟩
  have hk':((Z.1.2.kind:Nat):Int)=2:=Ya
  have hn0:nameAt ts 0=true:=by simp [nameAt,hZt,isN,hk]
  obtain ⟨Y,b2,o2,cs2,hY,hq,_,p3,p4,p5,p7,p8,hYA⟩:=tok9 (s1.ext x2) hA (i:=1) Ya
  cases hq
  rw [r3] at p3
  cases p3
  rw [Nat.one_mul] at p4 p5 p7 p8
  have hYt:ts[1]? =some Y.1:=by rw [hts,List.getElem?_map,hY];rfl
  rw [hk'] at r4
  have c0:(0:Int)≤1:=Ya
  (rw [WR];simp +decide only [go_sem,WS,hl1,d0,c0,show Int.toNat 0=0 from rfl,show Int.toNat 1=1 from rfl,Nat.zero_mul,Nat.one_mul,Nat.add_zero,r3,r4,p7,p8])
  refine Zaa Kok (x01.trans x2).1 (ZmI Y.1 hYA 8592 w2) fun r w3 x3 hr=> ?_
  subst hr
  have S3:=S2.more x3
  cases hm8:isM Y.1.2 8592 with
  | false =>
    simp +decide only [go_sem,WS]
    exact cont (E,xs,_,c) _ _ ⟨Yc,S3,Yc,Yc,Yc,s1,hA,by simp only;omega,by rw [Zpa hYt hm8,hts]⟩
  | true =>
  obtain ⟨a',c',f1,s1'⟩:=cut9 (x2.trans x3) s1 hA (m:=2) Ya
  have f1':irsl (some (.slice 9)) w3 (some ⟨b,o,none⟩) xs.length c (some (.int .i64 2)) none none=some (.slice a' (xs.length - 2) c'):=f1
  have r3':(w3.get b).read= .cells cs 9:=by rw [x3.2 _ Y2];exact r3
  obtain ⟨w4,e4,S4,hs4⟩:=S3.put ⟨E,wd Z.1,E,E,[]⟩ rfl
  have g3:=S3.g
  simp only [hl,hdZ] at g3 e4
  simp +decide only [go_sem,WS]
  (rw [WR];simp +decide only [go_sem,WS,show Int.toNat 0=0 from rfl,d0,Nat.zero_mul,Nat.add_zero,r3',r5,f1',g3,q1,e4])
  have hbw:b < w1.size:=by
   obtain ⟨_,_,_,_,_,hq,hb,_⟩:=tok9 s1 hA (i:=0) Ya
   cases hq
   exact hb
  have hbw3:b < w3.size:=by have:=S3.ext.1;omega
  refine ZiV ?_ ?_
  ·simp +decide only [go_sem,WR,WS,hbw3]
   simp
   omega
  simp +decide only [go_sem,WS]
  refine cont (wd Z.1,xs.drop 2,a',c') _ _ ⟨Yc,S4,Yc,by simp +decide only [go_sem,List.length_drop],Yc,s1',fun z hz=>hA z (List.mem_of_mem_drop hz),by simp only [List.length_drop];omega,by rw [Zo9 hZt hn0 hYt hm8,hts,List.map_drop]⟩
 rintro ⟨re,us,ua,uc⟩ e w ⟨hsz,S,g2,g4,g6,su,hAu,hul,hres⟩
 simp only at S g4 su hAu hul hres
 have hbad2:∀ {w':Heap} {x:HdT} {v:Value},SS w1 w1.size w' x v→True:=fun _=>trivial
 (rw [WR];simp +decide only [go_sem,WS,hsz,g4])
 refine Zaa Kok (x01.trans S.ext).1 (Zmo us w (su.ext S.ext) hAu Ya) fun r w3 x3 hr=> ?_
 obtain ⟨vs,hvs⟩:∃ vs,vs=us.map (·.1):=⟨_,rfl⟩
 rw [← hvs] at hr hres
 obtain ⟨ns,hns⟩:∃ ns,ns=(vs.takeWhile isN).map wd:=⟨_,rfl⟩
 have hnl:ns.length≤us.length:=by
  rw [hns,List.length_map]
  exact Nat.le_trans (List.takeWhile_prefix isN).length_le (by rw [hvs,List.length_map];exact Nat.le_refl _)
 rw [← hns] at hr
 obtain ⟨na,nc,rfl⟩:=hr.shape
 have S3:=S.more x3
 have sg:=S3.g
 have zS:=zz S3
 have hnsl:=hr.sl
 obtain ⟨ca,cc,f1,su'⟩:=cut9 S3.ext su hAu (m:=ns.length) hnl
 have hlb:=hbad
 simp only [hl] at sg
 simp +decide only [go_sem,WS,hsz]
 apply Za1 (α:=HdT × List XT × Option Addr × Nat) (fun k e w=>e.size=128∧SS w1 w1.size w k.1 (.slice none 0 0)∧k.1.ls=[]∧e.get 2= .pointer (some ⟨h.size,0,none⟩)∧e.get 4= .slice k.2.2.1 k.2.1.length k.2.2.2∧e.get 6= .pointer (some ⟨w1.size,0,none⟩)∧Sl w1 9 k.2.2.1 k.2.1.length k.2.2.2 (xcs k.2.1)∧(∀ z ∈ k.2.1,Arr5 z.2)∧k.2.1.length≤600∧ZaV ts=Zcd k.1 (k.2.1.map (·.1)))
 ·intro cont
  have few:ns.length < 1∨3 < ns.length→hdp l=(hdZ,false):=fun hf=>hbad (Zmc hres (by rw [← hns];exact hf))
  have some_:∀ x,Zgn re ns []=some x→ZaV ts=Zcd x ((us.drop ns.length).map (·.1)):=fun x hx=>by
   rw [Zmb hres (by rw [← hns];exact hx),← hns,hvs,List.map_drop]
  by_cases hf:ns.length < 1∨3 < ns.length
  ·have hp:=few hf
   have m1:¬ ((ns.length:Nat):Int)=1:=Ya
   have m2:¬ ((ns.length:Nat):Int)=2:=Ya
   have m3:¬ ((ns.length:Nat):Int)=3:=Ya
   obtain ⟨w'',ew,gw⟩:=zero S3
   simp +decide only [go_sem,WR,WS,hsz,g2,m1,m2,m3,zS,j0,ew,gw]
   rw [hp]
   exact ⟨none,0,rfl,Sl.nil _ _⟩
  rcases four ns with hn | ⟨f,hn⟩ | ⟨f,b,hn⟩ | ⟨f,g,b,hn⟩ | hn
  ·exact absurd (.inl (by rw [hn];simp)) hf
  ·have hm:ns.length=1:=by rw [hn];rfl
   have hm':((ns.length:Nat):Int)=1:=Ya
   obtain ⟨bn,on,cn,rfl,_,r3,r4⟩:=ZaN hnsl (i:=0) Ya
   have hf:ns[0]' Ya=f:=by simp [hn]
   rw [hf,Nat.add_zero] at r4
   obtain ⟨w5,e5,S5,hs5⟩:=S3.put ⟨f,re,E,E,[]⟩ rfl
   obtain ⟨ca,cc,f1,su'⟩:=cut9 S5.ext su hAu (m:=ns.length) hnl
   simp only [hl] at e5
   simp only [hm'] at f1
   (rw [WR];simp +decide only [go_sem,WS,hsz,hm'])
   (rw [WR];simp +decide only [go_sem,WS,hsz,hm'])
   (rw [WR];simp +decide only [go_sem,WS,hsz,hm',show Int.toNat 0=0 from rfl,Nat.add_zero,Nat.zero_mul,r3,r4,g6,sg,q1,e5])
   (rw [WR];simp +decide only [go_sem,WS,hsz,hm',g4,f1])
   exact cont (⟨f,re,E,E,[]⟩,us.drop ns.length,ca,cc) _ _ ⟨Yb,S5,rfl,Yt,YY,Yv,su',fun z hz=>hAu z (List.mem_of_mem_drop hz),by simp only [List.length_drop];omega,some_ _ (by rw [hn];rfl)⟩
  ·have hm:ns.length=2:=by rw [hn];rfl
   have hm':((ns.length:Nat):Int)=2:=Ya
   obtain ⟨bn,on,cn,rfl,_,r3,r4⟩:=ZaN hnsl (i:=0) Ya
   obtain ⟨bn2,on2,cn2,hq,_,r3',r5⟩:=ZaN hnsl (i:=1) Ya
   cases hq
   rw [r3] at r3'
   cases r3'
   have hf0:ns[0]' Ya=f:=by simp [hn]
   have hf1:ns[1]' Ya=b:=by simp [hn]
   rw [hf0,Nat.add_zero] at r4
   rw [hf1] at r5
   obtain ⟨w5,e5,S5,hs5⟩:=S3.put ⟨f,re,E,E,[]⟩ rfl
   have sg5:=S5.g
   obtain ⟨w6,e6,S6,hs6⟩:=S5.put ⟨f,re,E,b,[]⟩ rfl
   obtain ⟨ca,cc,f1,su'⟩:=cut9 S6.ext su hAu (m:=ns.length) hnl
   simp only [hl] at e5 sg5 e6
   simp only [hm'] at f1
   (rw [WR];simp +decide only [go_sem,WS,hsz,hm'])
   (rw [WR];simp +decide only [go_sem,WS,hsz,hm'])
   (rw [WR];simp +decide only [go_sem,WS,hsz,hm'])
   (rw [WR];simp +decide only [go_sem,WS,hsz,hm',show Int.toNat 0=0 from rfl,show Int.toNat 1=1 from rfl,Nat.add_zero,Nat.zero_mul,Nat.one_mul,r3,r4,r5,g6,sg,q1,e5,sg5,e6])
   have hbn:bn < w3.size:=Y2
   have hbq:w.size≤bn:=Zj3 hr rfl
   have hqw:=S.hq
   refine ZiV ?_ ?_
   ·simp +decide only [go_sem,WR,WS,hsz,hbn]
    simp
    omega
   simp +decide only [go_sem,WS,hsz]
   (rw [WR];simp +decide only [go_sem,WS,hsz,hm',g4,f1])
   exact cont (⟨f,re,E,b,[]⟩,us.drop ns.length,ca,cc) _ _ ⟨Yb,S6,rfl,Yt,YY,Yv,su',fun z hz=>hAu z (List.mem_of_mem_drop hz),by simp only [List.length_drop];omega,some_ _ (by rw [hn];rfl)⟩
  ·have hm:ns.length=3:=by rw [hn];rfl
   have hm':((ns.length:Nat):Int)=3:=Ya
   obtain ⟨bn,on,cn,rfl,_,r3,r4⟩:=ZaN hnsl (i:=0) Ya
   obtain ⟨bn2,on2,cn2,hq,_,r3',r5⟩:=ZaN hnsl (i:=1) Ya
   cases hq
   rw [r3] at r3'
   cases r3'
   obtain ⟨bn2,on2,cn2,hq,_,r3',r6⟩:=ZaN hnsl (i:=2) Ya
   cases hq
   rw [r3] at r3'
   cases r3'
   have hf0:ns[0]' Ya=f:=by simp [hn]
   have hf1:ns[1]' Ya=g:=by simp [hn]
   have hf2:ns[2]' Ya=b:=by simp [hn]
   rw [hf0,Nat.add_zero] at r4
   rw [hf1] at r5
   rw [hf2] at r6
   obtain ⟨w5,e5,S5,hs5⟩:=S3.put ⟨E,re,f,E,[]⟩ rfl
   have sg5:=S5.g
   obtain ⟨w6,e6,S6,hs6⟩:=S5.put ⟨g,re,f,E,[]⟩ rfl
   have sg6:=S6.g
   obtain ⟨w7,e7,S7,hs7⟩:=S6.put ⟨g,re,f,b,[]⟩ rfl
   obtain ⟨ca,cc,f1,su'⟩:=cut9 S7.ext su hAu (m:=ns.length) hnl
   simp only [hl] at e5 sg5 e6 sg6 e7
   simp only [hm'] at f1
   (rw [WR];simp +decide only [go_sem,WS,hsz,hm'])
   (rw [WR];simp +decide only [go_sem,WS,hsz,hm'])
   (rw [WR];simp +decide only [go_sem,WS,hsz,hm'])
   (rw [WR];simp +decide only [go_sem,WS,hsz,hm'])
   (rw [WR];simp +decide only [go_sem,WS,hsz,hm',show Int.toNat 0=0 from rfl,show Int.toNat 1=1 from rfl,show Int.toNat 2=2 from rfl,Nat.add_zero,Nat.zero_mul,Nat.mul_one,r3,r4,r5,r6,g6,sg,q1,e5,sg5,e6,sg6,e7])
   have hbn:bn < w3.size:=Y2
   have hbq:w.size≤bn:=Zj3 hr rfl
   have hqw:=S.hq
   refine ZiV ?_ ?_
   ·simp +decide only [go_sem,WR,WS,hsz,hbn]
    simp
    omega
   simp +decide only [go_sem,WS,hsz]
   (rw [WR];simp +decide only [go_sem,WS,hsz,hm',g4,f1])
   exact cont (⟨g,re,f,b,[]⟩,us.drop ns.length,ca,cc) _ _ ⟨Yb,S7,rfl,Yt,YY,Yv,su',fun z hz=>hAu z (List.mem_of_mem_drop hz),by simp only [List.length_drop];omega,some_ _ (by rw [hn];rfl)⟩
  ·exact absurd (.inr hn) hf
 rintro ⟨x,zs,za,zc⟩ e w ⟨hsz,T,hx0,g2,g4,g6,sz,hAz,hzl,hps⟩
 simp only at T hx0 g4 sz hAz hzl hps
 refine Zah (α:=HdT × Value × List XT × Option Addr × Nat) (fun k e w=>e.size=128∧SS w1 w1.size w k.1 k.2.1∧e.get 2= .pointer (some ⟨h.size,0,none⟩)∧e.get 4= .slice k.2.2.2.1 k.2.2.1.length k.2.2.2.2∧e.get 6= .pointer (some ⟨w1.size,0,none⟩)∧Sl w1 9 k.2.2.2.1 k.2.2.1.length k.2.2.2.2 (xcs k.2.2.1)∧(∀ z ∈ k.2.2.1,Arr5 z.2)∧ZaV ts=Zcd k.1 (k.2.2.1.map (·.1))∧k.1.ls.length+k.2.2.1.length≤600) (fun k=>k.2.2.1.length) (x,.slice none 0 0,zs,za,zc) ?_ ?_
 ·exact ⟨hsz,T,g2,g4,g6,sz,hAz,hps,by rw [hx0];simpa using hzl⟩
 clear hsz T hx0 g2 g4 g6 sz hAz hzl hps
 rintro ⟨x,v,zs,za,zc⟩ e w ⟨hsz,T,g2,g4,g6,sz,hAz,hps,hxl⟩ next
 simp only at T g4 sz hAz hps hxl
 have st:=sz.ext T.ext
 have zT:=zz T
 have tg:=T.g
 obtain ⟨va,vc,rfl⟩:=T.own.shape
 match zs,g4,sz,hAz,hps,hxl,st with
 | [],g4,sz,hAz,hps,hxl,st =>
   rw [List.map_nil,Zh3] at hps
   simp only [hl] at tg
   simp +decide only [go_sem,WR,WS,hsz,g4,g6,tg,List.length_nil]
   refine Zaa Kok (x01.trans T.ext).1 (ZgS x w T.own.sl Ya) fun r w4 x4 hr=> ?_
   obtain ⟨na,nc,rfl⟩:=hr.shape
   have T4:=T.more x4
   have tg4:=T4.g
   have hxn:=Zd4 x
   have hxl':x.ls.length≤600:=Ya
   obtain ⟨w5,e5,x5,hs5,z5⟩:=lay1 w4 (.cells [.string x.nm] 1)
   have hlow:h.size≤w.size:=(x01.trans T.ext).1
   obtain ⟨w6,e6,own6,hs6,x6⟩:=ZcL (low:=h.size) (s:=x.nm) hlow (x4.trans x5) (hr.ext x5) Ya
   have T6:=T.more x6
   have tg6:=T6.g
   have z6:=zz T6
   have hal:x.all.length=x.names.length+1:=by simp [HdT.all]
   have own6':Own w.size w6 1 (.slice (some ⟨w5.size,0,none⟩) (x.names.length+1) big) (x.names.length+1) (sv x.all):=own6
   have own6'':Own h.size w6 1 (.slice (some ⟨w5.size,0,none⟩) x.all.length big) x.all.length (sv x.all):=by
    rw [hal]
    exact own6'.keep hlow fun b hb _=>⟨rfl,hb⟩
   have hsd:=ZlH own6'' Ya Ya
   rw [hal] at hsd
   simp only [hl] at tg4
   simp +decide only [go_sem,WR,WS,hsz,g6,tg4,e5,z5,e6]
   refine ZaW rfl hsd fun r w7 hr2=> ?_
   obtain ⟨own7,hs7,k7⟩:=hr2
   have hx5:w.size≤w5.size:=by have:=x4.1;omega
   have hTq:=T.hq
   have T7:SS w1 w1.size w7 x (.slice va x.ls.length vc):=SS.other T6 hs7 (d:=w5.size) (by have:=T.ext.1;omega) Ya (fun hh=>by have:=Zpf T.own hh;omega) fun b hb=>k7 b (by simp [vblk];omega)
   obtain ⟨L,hLe⟩:∃ L,L=mkS (sorted (x.all.map (·.data.toList))):=⟨_,rfl⟩
   rw [← hLe] at own7
   have hL:L.length=x.names.length+1:=by rw [hLe];simp [mkS,sorted,hal]
   have hLl:L.map (·.data.toList)=sorted (x.all.map (·.data.toList)):=by rw [hLe,Zoh]
   have hcl:=Zno (ls:=L) (h:=w7) (a:=some ⟨w5.size,0,none⟩) (c:=big) (by rw [hL];exact own7.sl) Ya Ya
   rw [hL] at hcl
   simp +decide only [go_sem,WR,WS,hsz]
   refine Zaa Kok (x01.trans T7.ext).1 hcl fun r w8 x8 hr3=> ?_
   have own8:Own w7.size w8 1 r L.length (sv L):=by rw [hL];exact hr3
   obtain ⟨b8,hrb,hb8,hb8s,hg8,_⟩:=Zi3 own8 Ya Ya
   subst hrb
   have T8:=T7.more x8
   have hcd:=Znl (low:=h.size) (own8.keep (x01.trans T7.ext).1 fun b hb _=>⟨rfl,hb⟩) Ya Ya
   simp +decide only [go_sem,WR,WS,hsz]
   refine ZaW rfl hcd fun r w9 hr4=> ?_
   obtain ⟨⟨ca,cc,rfl⟩,hs9,k9⟩:=hr4
   have h7q:=T7.hq
   have T9:SS w1 w1.size w9 x (.slice va x.ls.length vc):=SS.other T8 hs9 (d:=b8) (by have:=T7.ext.1;omega) Ya (fun hh=>by have:=Zpf T7.own hh;omega) fun b hb=>k9 b (by simp [vblk];omega)
   have z9:=zz T9
   have tg9:=T9.g
   simp only [hl] at tg9
   rw [hLl]
   have hnd:(Lib.compact (sorted (x.all.map (·.data.toList)))).length=x.names.length+1↔x.all.Nodup:=by
    have:=ZnB (x.all.map (·.data.toList))
    rw [List.length_map,hal] at this
    rw [this,ZnC]
   generalize (Lib.compact (sorted (x.all.map (·.data.toList)))).length=M at hnd ⊢
   by_cases hx:x.all.Nodup
   ·have hp2:hdp l=(x,true):=by simp only [hdp,hlex,hps,fin,if_pos hx]
    have hM:=hnd.2 hx
    obtain ⟨w10,e10,g10,hs10,k10⟩:=fin0 w9 [.string x.nm,.string x.re,.string x.le,.string x.ri,.slice va x.ls.length vc] (x01.trans T9.ext)
    have hMi:((M:Nat):Int)=((x.names.length+1:Nat):Int):=Ya
    simp +decide only [go_sem,WR,WS,hsz,g2,g6,hMi,tg9,z9,j0,e10,g10]
    rw [hp2]
    refine ⟨va,vc,rfl,?_⟩
    exact (T9.own.keep (Nat.le_refl _) fun b hb hv=>⟨k10 b (by have:=Zj3 T9.own hv;omega),by omega⟩).sl
   ·have hp2:ZaV ts=none:=by rw [hps,fin,if_neg hx]
    have hM:¬ M=x.names.length+1:=fun hh=>hx (hnd.1 hh)
    have hMi:¬ ((M:Nat):Int)=((x.names.length+1:Nat):Int):=Ya
    obtain ⟨w'',ew,gw⟩:=zero T9
    simp +decide only [go_sem,WR,WS,hsz,g2,g6,hMi,z9,j0,ew,gw]
    rw [hbad hp2]
    exact ⟨none,0,rfl,Sl.nil _ _⟩
 | [A],g4,sz,hAz,hps,hxl,st =>
   rw [List.map_cons,List.map_nil,Zl3] at hps
   obtain ⟨w'',ew,gw⟩:=zero T
   simp +decide only [go_sem,WR,WS,hsz,g2,g4,zT,j0,ew,gw,List.length_singleton]
   rw [hbad hps]
   exact ⟨none,0,rfl,Sl.nil _ _⟩
 | A::B::r,g4,sz,hAz,hps,hxl,st =>
   obtain ⟨Z,b,o,cs,hZ,rfl,_,r3,r4,r5,r7,r8,hZA⟩:=tok9 st hAz (i:=0) Yp
   cases hZ
   rw [Nat.zero_mul,Nat.add_zero] at r4 r5 r7 r8
   have hbw:b < w1.size:=by
    obtain ⟨_,_,_,_,_,hq,hb,_⟩:=tok9 sz hAz (i:=0) Yp
    cases hq
    exact hb
   have n2:(A::B::r).length=r.length+2:=rfl
   have d0:(0:Int) < (((A::B::r).length:Nat):Int):=by rw [n2];omega
   have d1:(1:Int) < (((A::B::r).length:Nat):Int):=by rw [n2];omega
   have d2:¬ (((A::B::r).length:Nat):Int) < 2:=by rw [n2];omega
   have c0:(0:Int)≤1:=Ya
   generalize hN:(A::B::r).length=N at *
   simp +decide only [go_sem,WR,WS,hsz,g4,d0,d2,show Int.toNat 0=0 from rfl,Nat.zero_mul,Nat.add_zero,r3,r8,r7]
   refine Zaa Kok (x01.trans T.ext).1 (ZmI A.1 hZA 59 w) fun r' w3 x3 hr=> ?_
   subst hr
   have T3:=T.more x3
   have z3:=zz T3
   rw [List.map_cons,List.map_cons] at hps
   cases hmk:isM A.1.2 59 with
   | false =>
     rw [ZgC _ hmk] at hps
     obtain ⟨w'',ew,gw⟩:=zero T3
     simp +decide only [go_sem,WR,WS,hsz,g2,g4,z3,j0,ew,gw]
     rw [hbad hps]
     exact ⟨none,0,rfl,Sl.nil _ _⟩
   | true =>
   have st3:=sz.ext T3.ext
   obtain ⟨Y,b2,o2,cs2,hY,hq,_,p3,p4,p5,p7,p8,hYA⟩:=tok9 (zs:=A::B::r) (by rw [hN];exact st3) hAz (i:=1) Yp
   cases hq
   cases hY
   rw [Nat.one_mul] at p4 p5 p7 p8
   by_cases hkb:B.1.2.kind=2
   case neg =>
    have hk':¬ ((B.1.2.kind:Nat):Int)=2:=Ya
    rw [ZgB _ (by simp [nameAt,isN,hkb])] at hps
    obtain ⟨w'',ew,gw⟩:=zero T3
    simp +decide only [go_sem,WR,WS,hsz,g2,g4,d1,c0,show Int.toNat 1=1 from rfl,Nat.one_mul,p3,p4,hk',z3,j0,ew,gw]
    rw [hbad hps]
    exact ⟨none,0,rfl,Sl.nil _ _⟩
   have hk':((B.1.2.kind:Nat):Int)=2:=Ya
   rw [hk'] at p4
   rw [Zda,hmk,show isN B.1=true by simp [isN,hkb],Bool.and_self,if_pos rfl] at hps
   obtain ⟨u3,u4,u5,f3,fz3,fg3,f4,fg4,f5,T5⟩:=T3.app (low:=h.size) q1 (wd B.1) Ya
   have tg3:=T3.g
   obtain ⟨a',c',f1,s1'⟩:=cut9 (zs:=A::B::r) (m:=2) T5.ext (by rw [hN];exact sz) hAz Yp
   have f1':irsl (some (.slice 9)) u5 (some ⟨b,o,none⟩) N zc (some (.int .i64 2)) none none=some (.slice a' r.length c'):=by
    rw [← hN]
    exact f1
   simp only [hl] at tg3 fg3 fg4 f5
   simp +decide only [go_sem,WR,WS,hsz,g4,g6,d1,c0,show Int.toNat 1=1 from rfl,Nat.one_mul,p3,p4,p5,tg3,f3,fz3,f4,fg4,q1,f5,f1']
   exact next ({ x with ls:=x.ls++[wd B.1] },_,r,a',c') _ _ ⟨Yb,T5,Yt,Yb,Yv,s1',fun z hz=>hAz z (by simp [hz]),hps,by simp only [List.length_append,List.length_singleton];omega⟩ Yj
end Go.Proofs.YtachkofbmodnnaaGreat.H8
namespace Go.Im.Heads
open Go.Im.Lexing
theorem Zhn:∀ {f p:Nat} {s:List Int} {ts:List (Nat × Tk)},lexF f p s=some ts→ts.length≤f
 | 0,p,s,ts,h=>by cases h
 | f+1,p,s,ts,h=>by
   simp only [lexF] at h
   split at h
   ·cases h
    simp
   ·split at h
    ·cases h
     simp
    ·split at h
     ·cases h
     ·have:=Zhn h
      omega
     ·obtain ⟨us,hu,rfl⟩:=Option.map_eq_some_iff.1 h
      have:=Zhn hu
      simp only [List.length_cons]
      omega
def NT (ts:List (Nat × Tk)):Prop:=∀ t ∈ ts,isN t=true→0 < (wd t).size∧(wd t).size≤96
theorem Zsn {l:List Int} {ts:List (Nat × Tk)} (h:lex l=some ts):NT ts∧ts.length≤600:=by
 refine ⟨fun t ht hn=>ZkU (Zph h t ht (by simpa [isN] using hn)),?_⟩
 unfold lex at h
 split at h
 ·cases h
 ·exact Zhn h
theorem Zmx:∀ {ts:List (Nat × Tk)} {ls:List ByteArray},NT ts→locT ts=some ls→(∀ y ∈ ls,y.size≤96)∧ls.length≤ts.length
 | [],ls,_,h=>by
   cases h
   simp
 | [a],ls,_,h=>by cases h
 | a::b::r,ls,hN,h=>by
   simp only [locT] at h
   split at h
   ·rename_i hab
    simp only [Bool.and_eq_true] at hab
    obtain ⟨ms,hm,rfl⟩:=Option.map_eq_some_iff.1 h
    obtain ⟨h1,h2⟩:=Zmx (fun t ht=>hN t (by simp [ht])) hm
    refine ⟨fun y hy=> ?_,by simp only [List.length_cons];omega⟩
    rcases List.mem_cons.1 hy with rfl | hy
    ·exact (hN b Yp hab.2).2
    ·exact h1 y hy
   ·cases h
theorem e96:E.size≤96:=by decide
theorem Zpg {α:Type} {p:α→Bool} {t:α}:∀ {l:List α},t ∈ l.takeWhile p→p t=true
 | [],h=>by simp at h
 | a::l,h=>by
   by_cases ha:p a=true
   ·rw [List.takeWhile_cons_of_pos ha] at h
    rcases List.mem_cons.1 h with rfl | h
    ·exact ha
    ·exact Zpg h
   ·rw [List.takeWhile_cons_of_neg ha] at h
    simp at h
theorem Zp3 {ts:List (Nat × Tk)} (hN:NT ts):(resT ts).1.size≤96∧NT (resT ts).2∧(resT ts).2.length≤ts.length:=by
 match ts,hN with
 | [],hN=>exact ⟨e96,hN,Nat.le_refl _⟩
 | [a],hN=>exact ⟨e96,hN,Nat.le_refl _⟩
 | a::b::r,hN =>
   simp only [resT]
   split
   ·rename_i hab
    simp only [Bool.and_eq_true] at hab
    exact ⟨(hN a Yp hab.1).2,fun t ht=>hN t (by simp [ht]),by simp only [List.length_cons];omega⟩
   ·exact ⟨e96,hN,Nat.le_refl _⟩
structure Good (x:HdT):Prop where
 nm:x.nm.size≤96
 re:x.re.size≤96
 le:x.le.size≤96
 ri:x.ri.size≤96
 ls:∀ y ∈ x.ls,y.size≤96
 few:x.ls.length≤600
 two:x.ri=E→x.le=E
theorem ZiB:Good hdZ:=⟨by decide,by decide,by decide,by decide,by simp [hdZ],by simp [hdZ],fun _=>rfl⟩
theorem Zi9 {ts:List (Nat × Tk)} {x:HdT} (hN:NT ts) (hl:ts.length≤600) (h:ZaV ts=some x):Good x:=by
 obtain ⟨r1,r2,r3⟩:=Zp3 hN
 have hns:∀ y ∈ ((resT ts).2.takeWhile isN).map wd,0 < y.size∧y.size≤96:=by
  intro y hy
  obtain ⟨t,ht,rfl⟩:=List.mem_map.1 hy
  exact r2 t ((List.takeWhile_prefix isN).sublist.subset ht) (Zpg ht)
 unfold ZaV at h
 simp only at h
 split at h
 ·cases h
 ·rename_i ls hls
  obtain ⟨l1,l2⟩:=Zmx (fun t ht=>r2 t (List.mem_of_mem_drop ht)) hls
  rw [List.length_drop] at l2
  split at h
  ·cases h
  ·rename_i y hy
   split at h
   ·cases h
    have e0:∀ {p:Prop},(E.size≤96→p)→p:=fun f=>f YI
    generalize ((resT ts).2.takeWhile isN).map wd=ns at hns hy
    match ns,hns,hy with
    | [f],hns,hy =>
      cases hy
      exact ⟨(hns f Yp).2,r1,e96,e96,l1,by simp only;omega,fun _=>rfl⟩
    | [f,b],hns,hy =>
      cases hy
      exact ⟨(hns f Yp).2,r1,e96,(hns b Yp).2,l1,by simp only;omega,fun _=>rfl⟩
    | [a,f,b],hns,hy =>
      cases hy
      refine ⟨(hns f Yp).2,r1,(hns a Yp).2,(hns b Yp).2,l1,by simp only;omega,fun hh=> ?_⟩
      simp only at hh
      have:=(hns b Yp).1
      rw [hh] at this
      exact absurd this YI
   ·cases h
theorem Zel (l:List Int):Good (hdp l).1:=by
 unfold hdp
 split
 ·exact ZiB
 ·rename_i ts hts
  obtain ⟨h1,h2⟩:=Zsn hts
  split
  ·exact ZiB
  ·rename_i x hx
   exact Zi9 h1 h2 hx
end Go.Im.Heads
namespace Go.Proofs.YtachkofbmodnnaaGreat.H9
open Go Go.Im Go.Im.Limbs Go.Im.Lexing Go.Im.Heads Go.Proofs Go.RowKit Go.Sort Hd N18 N19 N23 N26 R8 R9 T0 H2 H3 H4 H5 H6 H7 H8
set_option maxRecDepth 100000
end Go.Proofs.YtachkofbmodnnaaGreat.H9
