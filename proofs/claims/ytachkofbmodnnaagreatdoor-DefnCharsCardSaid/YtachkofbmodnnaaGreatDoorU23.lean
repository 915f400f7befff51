/- Proved here: parts of the way to BDefnChars (BP5 BP6 BP7); no condition beyond those that each theorem names. -/
import Derived.Test.YtachkofbmodnnaaGreatDoorU22
set_option linter.unusedSimpArgs false
set_option linter.unusedVariables false
namespace Go.Im.Arrays
open Go Go.Im Go.Im.Lexing Go.Im.Limbs Go.Im.Defn
def chunk (tx:List Int) (W i:Nat):ByteArray:=runesBytes ((tx.drop (i*W)).take W)
def rowsC (tx:List Int) (W x:Nat):List ByteArray:=(List.range x).map (chunk tx W)
def wideOf (shape:List Int) (tx:List Int):Nat:=match shape with
 | [_,W]=>W.toNat
 | _=>tx.length
def manyOf (shape:List Int):Nat:=match shape with
 | [x,_]=>x.toNat
 | _=>1
def rowsOf (shape:List Int) (tx:List Int):List ByteArray:=rowsC tx (wideOf shape tx) (manyOf shape)
def ofS (shape:List Int) (ch:Bool) (tx:List Int):DefT × Int × Int :=
 if 2 < shape.length then (dZ, -1,23) else if ch=false then (dZ, -1,22) else ((makeS (rowsOf shape tx)).1,(makeS (rowsOf shape tx)).2,0)
theorem chunk_all (tx:List Int):chunk tx tx.length 0=runesBytes tx:=by
 unfold chunk
 rw [Nat.zero_mul,List.drop_zero,List.take_length]
theorem rowsC_length (tx:List Int) (W x:Nat):(rowsC tx W x).length=x:=by simp [rowsC]
theorem rowsC_at {tx:List Int} {W x i:Nat} (h:i < x):(rowsC tx W x)[i]? =some (chunk tx W i):=by simp [rowsC,h]
theorem rowsC_snoc (tx:List Int) (W i:Nat):rowsC tx W (i+1)=rowsC tx W i++[chunk tx W i]:=by simp [rowsC,List.range_succ]
theorem chunk_size {tx:List Int} {W i:Nat} (h:tx.length≤1500):(chunk tx W i).size≤6000:=by
 have h1:=runesBytes_size ((tx.drop (i*W)).take W)
 have h2:((tx.drop (i*W)).take W).length≤tx.length:=by simp;omega
 unfold chunk
 omega
theorem cnt2 {d e:Int} {n:Nat} (h:cntF [d,e] 1 false=some n):∃ x W:Nat,d=(x:Int)∧e=(W:Int)∧x≤4096∧W≤4096∧n=x*W:=by
 rw [cntF] at h
 split at h
 ·cases h
 rename_i h1
 rw [cntF] at h
 split at h
 ·cases h
 rename_i h2
 obtain ⟨x,rfl⟩:∃ x:Nat,d=(x:Int):=⟨d.toNat,by omega⟩
 obtain ⟨W,rfl⟩:∃ W:Nat,e=(W:Int):=⟨e.toNat,by omega⟩
 simp only [Int.toNat_natCast,Nat.one_mul] at h1 h2 h
 have h3:1*max 1 W≤max 1 x*max 1 W:=Nat.mul_le_mul_right _ (by omega)
 refine ⟨x,W,rfl,rfl,by omega,by omega,?_⟩
 rw [cntF] at h
 cases h
 by_cases hx:x=0
 ·subst hx
  simp
 ·by_cases hW:W=0
  ·subst hW
   simp
  ·have e1:max 1 x=x:=by omega
   have e2:max 1 W=W:=by omega
   have e3:decide ((x:Int)=0)=false:=by simp;omega
   have e4:decide ((W:Int)=0)=false:=by simp;omega
   rw [e1,e2,e3,e4]
   simp
theorem not2 {shape tx:List Int} (h:shape.length≠2):manyOf shape=1∧wideOf shape tx=tx.length:=by
 match shape,h with
 | [],_=>exact ⟨rfl,rfl⟩
 | [_],_=>exact ⟨rfl,rfl⟩
 | [_,_],h=>exact absurd rfl h
 | _::_::_::_,_=>exact ⟨rfl,rfl⟩
theorem is2 {shape tx:List Int} {n:Nat} (h:shape.length=2) (hc:cntF shape 1 false=some n):∃ X Y:Nat,shape=[(X:Int),(Y:Int)]∧X≤4096∧Y≤4096∧n=X*Y∧manyOf shape=X∧wideOf shape tx=Y:=by
 match shape,h with
 | [d,e],_ =>
   obtain ⟨X,Y,rfl,rfl,hX,hY,hn⟩:=cnt2 hc
   exact ⟨X,Y,rfl,hX,hY,hn,Int.toNat_natCast X,Int.toNat_natCast Y⟩
theorem lines_200:∀ {rs:List ByteArray} {x:Heads.HdT} {i:Nat} {ls:List ByteArray} {lb:List (ByteArray × Nat)} {tk:List ByteArray},ls.length≤200→lb.length≤200→ls.length+1≤i→lb.length+1≤i→(linesS x rs i ls lb tk).1.lines.length≤200∧(linesS x rs i ls lb tk).1.labels.length≤200
 | [],x,i,ls,lb,tk,h1,h2,_,_=>by rw [linesS];exact ⟨h1,h2⟩
 | r::rs,x,i,ls,lb,tk,h1,h2,h3,h4=>by
   rw [linesS]
   split
   ·simp [dZ]
   ·rename_i hok
    have hi:i≤200:=by
     have:¬ 200 < i:=fun hh=>hok (.inr hh)
     omega
    split
    ·exact lines_200 (by simp;omega) h2 (by simp;omega) (by omega)
    ·split
     ·simp [dZ]
     ·exact lines_200 (by simp;omega) (by simp;omega) (by simp;omega) (by simp;omega)
theorem make_200 (rows:List ByteArray):(makeS rows).1.lines.length≤200∧(makeS rows).1.labels.length≤200:=by
 match rows with
 | []=>simp [makeS,dZ]
 | r::rs =>
   rw [makeS]
   split
   ·exact lines_200 (by simp) (by simp) (by simp) (by simp)
   ·simp [dZ]
theorem ofS_few (shape:List Int) (ch:Bool) (tx:List Int):(ofS shape ch tx).1.lines.length≤200∧(ofS shape ch tx).1.labels.length≤200:=by
 unfold ofS
 split
 ·simp [dZ]
 ·split
  ·simp [dZ]
  ·exact make_200 _
theorem ofS_good (shape:List Int) (ch:Bool) (tx:List Int):Heads.Good (ofS shape ch tx).1.hd:=by
 unfold ofS
 split
 ·exact Heads.good_z
 ·split
  ·exact Heads.good_z
  ·exact make_good _
end Go.Im.Arrays
namespace Go.Proofs.YtachkofbmodnnaaGreatDoor.P5
open Go Go.Im Go.Im.Limbs Go.Im.Lexing Go.Im.Heads Go.Im.Editing Go.Im.Dec Go.Im.Defn Go.Im.Arrays Go.Proofs Go.RowKit Hd H2 H3 H5 D2 D3 D4 M8 M9 M10 P3 P4
set_option maxRecDepth 100000
theorem wshape_run (shape tx:List Int) (ch:Bool) (h:Heap) {v:Value} (V:AW h v shape ch tx) (hn:shape.length≤1000):Runs K 60 #[v] h fun r w=>∃ a c,r= .slice a shape.length c∧Sl w 1 a shape.length c (iv shape):=by
 obtain ⟨a,c,a1,c1,a2,n2,c2,rfl,s1,s2,_⟩:=V
 refine Runs.of Kok (Does.intro rfl (by decide +kernel) Tryz.func60 rfl ?_)
 obtain ⟨w1,e1,x1,hs1,z1⟩:=lay1 h (.cells [.slice a shape.length c,.bool ch,.slice a1 tx.length c1,.slice a2 n2 c2,.bool true] 5)
 simp +decide only [go_sem,WR,WS,e1,z1]
 refine W_call Kok x1.1 (clonei_run w1 (s1.ext x1) (by omega)) fun r w2 x2 hr=> ?_
 obtain ⟨sa,sc,rfl,ss⟩:=hr
 simp +decide only [go_sem,WR,WS]
 exact ⟨_,_,rfl,ss⟩
theorem wrank_run (shape tx:List Int) (ch:Bool) (h:Heap) {v:Value} (V:AW h v shape ch tx) (hn:shape.length≤1000):Runs K 65 #[v] h fun r w=>r= .int .i64 ((shape.length:Nat):Int):=by
 have V0:=V
 obtain ⟨a,c,a1,c1,a2,n2,c2,rfl,s1,s2,_⟩:=V0
 refine Runs.of Kok (Does.intro rfl (by decide +kernel) Tryz.func65 rfl ?_)
 obtain ⟨w1,e1,x1,hs1,z1⟩:=lay1 h (.cells [.slice a shape.length c,.bool ch,.slice a1 tx.length c1,.slice a2 n2 c2,.bool true] 5)
 simp +decide only [go_sem,WR,WS,e1,z1]
 refine W_call Kok x1.1 (wshape_run shape tx ch w1 (V.ext x1) hn) fun r w2 x2 hr=> ?_
 obtain ⟨sa,sc,rfl,ss⟩:=hr
 simp +decide only [go_sem,WR,WS]
theorem wischar_run (shape tx:List Int) (ch:Bool) (h:Heap) {v:Value} (V:AW h v shape ch tx):Runs K 66 #[v] h fun r w=>r= .bool ch:=by
 obtain ⟨a,c,a1,c1,a2,n2,c2,rfl,s1,s2,_⟩:=V
 refine Runs.of Kok (Does.intro rfl (by decide +kernel) Tryz.func66 rfl ?_)
 obtain ⟨w1,e1,x1,hs1,z1⟩:=lay1 h (.cells [.slice a shape.length c,.bool ch,.slice a1 tx.length c1,.slice a2 n2 c2,.bool true] 5)
 simp +decide only [go_sem,WR,WS,e1,z1]
theorem wlen_run (shape tx:List Int) (h:Heap) {v:Value} (V:AW h v shape true tx) (hn:tx.length≤1000000):Runs K 67 #[v] h fun r w=>r= .int .i64 ((tx.length:Nat):Int):=by
 obtain ⟨a,c,a1,c1,a2,n2,c2,rfl,s1,s2,h0⟩:=V
 have:=h0 rfl
 subst this
 refine Runs.of Kok (Does.intro rfl (by decide +kernel) Tryz.func67 rfl ?_)
 obtain ⟨w1,e1,x1,hs1,z1⟩:=lay1 h (.cells [.slice a shape.length c,.bool true,.slice a1 tx.length c1,.slice a2 0 c2,.bool true] 5)
 have i1:IntKind.i64.wrap (((tx.length:Nat):Int)+((0:Nat):Int))=((tx.length:Nat):Int):=by rw [wrap_i64 (by omega) (by omega)];omega
 simp +decide only [go_sem,WR,WS,e1,z1,i1]
theorem wrunes_run (shape tx:List Int) (ch:Bool) (h:Heap) {v:Value} (V:AW h v shape ch tx) (hn:tx.length≤1000000):Runs K 68 #[v] h fun r w=>∃ a c,r= .slice a tx.length c∧Sl w 1 a tx.length c (rv tx):=by
 obtain ⟨a,c,a1,c1,a2,n2,c2,rfl,s1,s2,_⟩:=V
 refine Runs.of Kok (Does.intro rfl (by decide +kernel) Tryz.func68 rfl ?_)
 obtain ⟨w1,e1,x1,hs1,z1⟩:=lay1 h (.cells [.slice a shape.length c,.bool ch,.slice a1 tx.length c1,.slice a2 n2 c2,.bool true] 5)
 simp +decide only [go_sem,WR,WS,e1,z1]
 refine W_call Kok x1.1 (cloner_run w1 (s2.ext x1) hn) fun r w2 x2 hr=> ?_
 obtain ⟨sa,sc,rfl,ss⟩:=hr
 simp +decide only [go_sem,WR,WS]
 exact ⟨_,_,rfl,ss⟩
set_option maxHeartbeats 4000000 in
theorem dof2_run (shape tx:List Int) (ch:Bool) (h:Heap) {v:Value} (V:AW h v shape ch tx) (hs:shape.length≤8) (htb:tx.length≤1500) {n:Nat} (hc:cntF shape 1 false=some n) (hch:ch=true→tx.length=n) :
  Runs K 23 #[v] h fun r w=>∃ u,r= .tuple #[u,.int .i64 (ofS shape ch tx).2.1,.int .i64 (ofS shape ch tx).2.2]∧DV w u (ofS shape ch tx).1:=by
 have V0:=V
 obtain ⟨a,c,a1,c1,a2,n2,c2,rfl,s1,s2,h0⟩:=V0
 have rk:=fun (w:Heap) (k:Ext h w)=>wrank_run shape tx ch w (V.ext k) (by omega)
 have icr:=fun (w:Heap) (k:Ext h w)=>wischar_run shape tx ch w (V.ext k)
 have sh:=fun (w:Heap) (k:Ext h w)=>wshape_run shape tx ch w (V.ext k) (by omega)
 have rn:=fun (w:Heap) (k:Ext h w)=>wrunes_run shape tx ch w (V.ext k) (by omega)
 refine Runs.of Kok (Does.intro rfl (by decide +kernel) Tryz.func23 rfl ?_)
 obtain ⟨w1,e1,x1,hs1,z1,y1⟩:=lay2 h (.cells [.slice a shape.length c,.bool ch,.slice a1 tx.length c1,.slice a2 n2 c2,.bool true] 5) (.cells [.string ByteArray.empty,.string ByteArray.empty,.string ByteArray.empty,.string ByteArray.empty,.slice none 0 0,.slice none 0 0,.slice none 0 0] 7)
 have zz:∀ {w:Heap},Ext w1 w→w.get h.size=_:=fun k=>(k.2 _ (by omega)).trans z1
 have yy:∀ {w:Heap},Ext w1 w→w.get (h.size+1)=_:=fun k=>(k.2 _ (by omega)).trans y1
 have r1:=Ext.refl w1
 have jq:h.size≤h.size+1:=by omega
 have bad:∀ (w:Heap),Ext w1 w→∃ w',w.set (h.size+1) (.cells [.string ByteArray.empty,.string ByteArray.empty,.string ByteArray.empty,.string ByteArray.empty,.slice none 0 0,.slice none 0 0,.slice none 0 0] 7)=w' ∧
   w'.get (h.size+1)= .cells [.string ByteArray.empty,.string ByteArray.empty,.string ByteArray.empty,.string ByteArray.empty,.slice none 0 0,.slice none 0 0,.slice none 0 0] 7:=fun w k=>by
  obtain ⟨w',e,_,_,g,_⟩:=put1 (x1.trans k) jq (.cells [.string ByteArray.empty,.string ByteArray.empty,.string ByteArray.empty,.string ByteArray.empty,.slice none 0 0,.slice none 0 0,.slice none 0 0] 7)
  exact ⟨w',e,g⟩
 simp +decide only [go_sem,WR,WS,e1,zz r1]
 refine W_call Kok x1.1 (rk w1 x1) fun r w2 x2 hr=> ?_
 subst hr
 by_cases h2:(2:Int) < ((shape.length:Nat):Int)
 ·obtain ⟨w',ew,gw⟩:=bad w2 x2
  have e:ofS shape ch tx=(dZ, -1,23):=by rw [ofS,if_pos (by omega)]
  rw [e]
  simp +decide only [go_sem,WR,WS,h2,yy x2,jq,ew,gw]
  exact ⟨_,rfl,DV.zero _⟩
 simp +decide only [go_sem,WR,WS,h2,zz x2]
 refine W_call Kok (x1.trans x2).1 (icr w2 (x1.trans x2)) fun r w3 x3 hr=> ?_
 subst hr
 have k3:=x2.trans x3
 cases ch with
 | false =>
   obtain ⟨w',ew,gw⟩:=bad w3 k3
   have e:ofS shape false tx=(dZ, -1,22):=by rw [ofS,if_neg (by omega),if_pos rfl]
   rw [e]
   simp +decide only [go_sem,WR,WS,yy k3,jq,ew,gw]
   exact ⟨_,rfl,DV.zero _⟩
 | true =>
 have hn:=hch rfl
 have eo:ofS shape true tx=((makeS (rowsOf shape tx)).1,(makeS (rowsOf shape tx)).2,0):=by rw [ofS,if_neg (by omega),if_neg (by simp)]
 rw [eo]
 simp +decide only [go_sem,WR,WS,zz k3]
 refine W_call Kok (x1.trans k3).1 (wlen_run shape tx w3 (V.ext (x1.trans k3)) (by omega)) fun r w4 x4 hr=> ?_
 subst hr
 have k4:=k3.trans x4
 simp +decide only [go_sem,WR,WS,zz k4]
 refine W_call Kok (x1.trans k4).1 (sh w4 (x1.trans k4)) fun r w5 x5 hr=> ?_
 obtain ⟨sa,sc,rfl,ss⟩:=hr
 have k5:=k4.trans x5
 have K5:=x1.trans k5
 obtain ⟨W,hW⟩:∃ W,W=wideOf shape tx:=⟨_,rfl⟩
 obtain ⟨x,hx⟩:∃ x,x=manyOf shape:=⟨_,rfl⟩
 have eR:rowsOf shape tx=rowsC tx W x:=by rw [rowsOf,← hW,← hx]
 rw [eR]
 apply W_join (α:=Unit) (fun _ e w=>w5=w∧e.size=64∧tx.length=x*W∧x≤4096∧W≤4096∧e.get 1= .pointer (some ⟨h.size,0,none⟩)∧e.get 2= .pointer (some ⟨h.size+1,0,none⟩)∧e.get 5= .int .i64 (W:Int)∧e.get 6= .int .i64 (x:Int))
 ·intro cont
  by_cases l2:shape.length=2
  ·obtain ⟨X,Y,hsh,hX,hY,hXY,hx',hW'⟩:=is2 (tx:=tx) l2 hc
   rw [← hx] at hx'
   rw [← hW] at hW'
   obtain ⟨b0,o0,cs0,rfl,g1,g2,g3⟩:=ss.one (i:=0) (x:= .int .i64 (X:Int)) (by rw [hsh];rfl)
   obtain ⟨b1,o1,cs1,hq,g4,g5,g6⟩:=ss.one (i:=1) (x:= .int .i64 (Y:Int)) (by rw [hsh];rfl)
   cases hq
   rw [g2] at g5
   cases g5
   rw [Nat.add_zero] at g3
   have q0:Int.toNat 0=0:=rfl
   have q1:Int.toNat 1=1:=rfl
   have l2':((shape.length:Nat):Int)=2:=by omega
   simp +decide only [go_sem,WS]
   (rw [WR];simp +decide only [go_sem,WS,l2'])
   (rw [WR];simp +decide only [go_sem,WS,l2',g2,g3,g6,q0,q1,Nat.add_zero])
   exact cont () _ _ ⟨rfl,by simp +decide only [go_sem],by rw [hx',hW',hn,hXY],by omega,by omega,by simp +decide only [go_sem],by simp +decide only [go_sem],by simp +decide only [go_sem,hW'],by simp +decide only [go_sem,hx']⟩
  ·obtain ⟨hx',hW'⟩:=not2 (tx:=tx) l2
   rw [← hx] at hx'
   rw [← hW] at hW'
   have l2':¬ ((shape.length:Nat):Int)=2:=by omega
   simp +decide only [go_sem,WS]
   (rw [WR];simp +decide only [go_sem,WS,l2'])
   exact cont () _ _ ⟨rfl,by simp +decide only [go_sem],by rw [hx',hW',Nat.one_mul],by omega,by omega,by simp +decide only [go_sem],by simp +decide only [go_sem],by simp +decide only [go_sem,hW'],by simp +decide only [go_sem,hx'];rfl⟩
 rintro _ e0' w' ⟨hw',hsz0,hxW,hx4,hW4,a1',a2',a5,a6⟩
 subst hw'
 clear hx hW
 obtain ⟨R',hR'⟩:∃ R',R'=rowsC tx W x:=⟨_,rfl⟩
 rw [← hR']
 have hn':R'.length=x:=by rw [hR',rowsC_length]
 have mkr:=fun (w:Heap) {a:Option Addr} {c:Nat} (s:Sl w 1 a R'.length c (sv R'))=>make_run R' w s (by omega) (fun y hy=>by
  rw [hR',rowsC,List.mem_map] at hy
  obtain ⟨z,hz,rfl⟩:=hy
  have:=chunk_size (tx:=tx) (W:=W) (i:=z) htb
  omega)
 generalize hM:makeS R'=M at *
 obtain ⟨d,bad⟩:=M
 simp only at mkr ⊢
 obtain ⟨w6,e6,x6,hs6,z6⟩:=lay1 w5 (.cells (tcells R' 0) 1)
 have hfl:(List.replicate x [Value.string ByteArray.empty]).flatten=tcells R' 0:=by
  rw [tcells,hn']
  simp [sv]
 have mk:imk w5.size 1 16 [.string ByteArray.empty] ((x:Nat):Int) ((x:Nat):Int)=some (.slice (some ⟨w5.size,0,none⟩) x x,some (.cells (tcells R' 0) 1)):=by
  rw [← hfl]
  exact imk_ok (by omega) (by omega) (by omega) (by omega)
 simp +decide only [go_sem,WR,WS,hsz0,a1',a2',a5,a6,mk,e6]
 refine W_loop (α:=Nat) (fun i e w=>i≤x∧e.size=64∧Ext w5 w∧w5.size < w.size∧w.get w5.size= .cells (tcells R' i) 1∧e.get 1= .pointer (some ⟨h.size,0,none⟩)∧e.get 2= .pointer (some ⟨h.size+1,0,none⟩)∧e.get 5= .int .i64 (W:Int)∧e.get 8= .slice (some ⟨w5.size,0,none⟩) x x∧e.get 38= .int .i64 ((x:Nat):Int)∧e.get 39= .int .i64 (i:Int)) (fun i=>x - i) 0 ?_ ?_
 ·exact ⟨Nat.zero_le _,by simp +decide only [go_sem,hsz0],x6,by omega,z6,by simp +decide only [go_sem,hsz0,a1'],by simp +decide only [go_sem,hsz0,a2'],by simp +decide only [go_sem,hsz0,a5],by simp +decide only [go_sem,hsz0],by simp +decide only [go_sem,hsz0],by simp +decide only [go_sem,hsz0];rfl⟩
 clear hsz0 a1' a2' a5 a6
 rintro i e w ⟨hi,hsz,xw,hw5,gw,e1',e2',e5,e8,e38,e39⟩ next
 have kw:=k5.trans xw
 by_cases hil:(i:Int) < ((x:Nat):Int)
 ·have hy':R'[i]? =some (chunk tx W i):=by rw [hR'];exact rowsC_at (by omega)
  have c0:(0:Int)≤(i:Int):=by omega
  have i1:IntKind.i64.wrap ((i:Int)+1)=((i+1:Nat):Int):=by rw [wrap_i64 (by omega) (by omega)];omega
  have hiW:(i+1)*W≤x*W:=Nat.mul_le_mul_right W (by omega)
  have hiW2:i*W≤(i+1)*W:=Nat.mul_le_mul_right W (by omega)
  have m1:IntKind.i64.wrap ((i:Int)*(W:Int))=((i*W:Nat):Int):=by
   rw [← Int.natCast_mul]
   exact wrap_i64 (by omega) (by omega)
  have m2:IntKind.i64.wrap (((i+1:Nat):Int)*(W:Int))=(((i+1)*W:Nat):Int):=by
   rw [← Int.natCast_mul]
   exact wrap_i64 (by omega) (by omega)
  simp +decide only [go_sem,WR,WS,hsz,e1',e5,e8,e38,e39,hil,zz kw]
  refine W_call Kok (x1.trans kw).1 (rn w (x1.trans kw)) fun r w7 x7 hr=> ?_
  obtain ⟨ta,tc,rfl,ts⟩:=hr
  obtain ⟨ca,cc,f1,cs⟩:=Sl.cut (Ext.refl w7) (by omega) ts (lo:=some (.int .i64 ((i*W:Nat):Int))) (hi:=some (.int .i64 (((i+1)*W:Nat):Int))) (l:=i*W) (u:=(i+1)*W) (bo _ _) (bo _ _) hiW2 (by omega)
  have hrow:((rv tx).drop (i*W*1)).take (((i+1)*W - i*W)*1)=rv ((tx.drop (i*W)).take W):=by
   rw [Nat.mul_one,Nat.mul_one,rv_drop,rv_take,show (i+1)*W - i*W=W by rw [Nat.add_mul];omega]
  rw [hrow] at cs
  have isc:=cs.isl
  have g7:w7.get w5.size= .cells (tcells R' i) 1:=(x7.2 _ hw5).trans gw
  have htl':=tcells_len R' (i:=i) (by omega)
  rw [hn'] at htl'
  have hput:=tcells_put hy'
  obtain ⟨w8,f8,x8,hs8,z8,k8⟩:=put1 (xw.trans x7) (Nat.le_refl w5.size) (.cells (tcells R' (i+1)) 1)
  have jW:h.size≤w5.size:=K5.1
  have jl:i+1≤x:=by omega
  have hs:runesBytes ((tx.drop (i*W)).take W)=chunk tx W i:=rfl
  have hw7:=x7.1
  simp +decide only [go_sem,WR,WS,hsz,e5,e8,e39,hil,c0,Int.toNat_natCast,m1,m2,f1,isc,icvs_rv,hs,jW,Nat.mul_one,g7,htl',jl,hput,f8,i1]
  exact next (i+1) _ _ ⟨by omega,by simp +decide only [go_sem,hsz],x8,by omega,z8,by simp +decide only [go_sem,hsz,e1'],by simp +decide only [go_sem,hsz,e2'],by simp +decide only [go_sem,hsz,e5],by simp +decide only [go_sem,hsz,e8],by simp +decide only [go_sem,hsz,e38],by simp +decide only [go_sem,hsz]⟩ (by omega)
 have hin:i=x:=by omega
 subst hin
 have et:tcells R' i=sv R':=by
  rw [tcells,← hn']
  simp
 rw [et] at gw
 have sR:Sl w 1 (some ⟨w5.size,0,none⟩) i i (sv R'):=Sl.made hw5 gw (by simp [sv,hn']) (by simp [big];omega)
 have mr:=mkr w (a:=some ⟨w5.size,0,none⟩) (c:=i) (by rw [hn'];exact sR)
 rw [hn'] at mr
 simp +decide only [go_sem,WR,WS,hsz,e1',e2',e5,e8,e38,e39,hil]
 refine W_call Kok (x1.trans kw).1 mr fun r w9 x9 hr=> ?_
 obtain ⟨u,rfl,D⟩:=hr
 have D':=D
 obtain ⟨p0,c0,p1,c1',p2,c2,rfl, -⟩:=D'
 have k9:=kw.trans x9
 have K9:=x1.trans k9
 obtain ⟨w10,e10,x10,hs10,z10⟩:=lay1 w9 (.cells [.string ByteArray.empty,.string ByteArray.empty,.string ByteArray.empty,.string ByteArray.empty,.slice none 0 0,.slice none 0 0,.slice none 0 0] 7)
 obtain ⟨w11,e11,x11,hs11,z11,_⟩:=put1 x10 (Nat.le_refl _) (.cells (dl d.hd (.slice p0 d.hd.ls.length c0) (.slice p1 d.lines.length c1') (.slice p2 d.labels.length c2)) 7)
 have j9:h.size≤w9.size:=K9.1
 have y11:=yy (k9.trans x11)
 obtain ⟨w12,e12,x12,hs12,z12,_⟩:=put1 (K9.trans x11) jq (.cells (dl d.hd (.slice p0 d.hd.ls.length c0) (.slice p1 d.lines.length c1') (.slice p2 d.labels.length c2)) 7)
 have D11:=D.ext x11
 have D12:=DV.put D11 y11 e12
 simp only [dl] at e11 z11 e12 z12 D12
 simp +decide only [go_sem,WR,WS,hsz,e2',dl,e10,z10,j9,e11,z11,y11,jq,e12,z12]
 exact ⟨_,rfl,D12⟩
end Go.Proofs.YtachkofbmodnnaaGreatDoor.P5
namespace Go.Proofs.YtachkofbmodnnaaGreatDoor.P6
open Go Go.Im Go.Im.Limbs Go.Im.Lexing Go.Im.Heads Go.Im.Editing Go.Im.Dec Go.Im.Defn Go.Im.Arrays Go.Proofs Go.RowKit Hd H2 H3 H5 D2 D3 D4 M8 M9 M10 P3 P4 P5
set_option maxRecDepth 100000
set_option maxHeartbeats 4000000 in
theorem rdof_run (p:PlT) (h:Heap) {v:Value} (V:PV h v p) (L:LightP p) :
  Runs K 27 #[v] h fun r w=>∃ u,r= .tuple #[u,.int .i64 (ofS p.shape p.ch p.tx).2.1,.int .i64 (ofS p.shape p.ch p.tx).2.2]∧DV w u (ofS p.shape p.ch p.tx).1:=by
 obtain ⟨a,c,a1,c1,a2,c2,rfl,s1,s2,s3⟩:=V
 obtain ⟨few,htb,nl,short,⟨n,hc,hch,hcn⟩,right⟩:=L
 obtain ⟨shape,ch,tx,nums⟩:=p
 simp only at s1 s2 s3 few htb nl short hc hch hcn right ⊢
 refine Runs.of Kok (Does.intro rfl (by decide +kernel) Tryz.func27 rfl ?_)
 obtain ⟨w1,e1,x1,hs1,z1,y1⟩:=lay2 h (.cells [.slice a shape.length c,.bool ch,.slice a1 tx.length c1,.slice a2 nums.length c2] 4) (.cells [.string ByteArray.empty,.string ByteArray.empty,.string ByteArray.empty,.string ByteArray.empty,.slice none 0 0,.slice none 0 0,.slice none 0 0] 7)
 have zz:∀ {w:Heap},Ext w1 w→w.get h.size=_:=fun k=>(k.2 _ (by omega)).trans z1
 have yy:∀ {w:Heap},Ext w1 w→w.get (h.size+1)=_:=fun k=>(k.2 _ (by omega)).trans y1
 have r1:=Ext.refl w1
 have jq:h.size≤h.size+1:=by omega
 obtain ⟨wb,eb,xb,hsb,gb,_⟩:=put1 x1 jq (.cells [.string ByteArray.empty,.string ByteArray.empty,.string ByteArray.empty,.string ByteArray.empty,.slice none 0 0,.slice none 0 0,.slice none 0 0] 7)
 by_cases h2:(2:Int) < ((shape.length:Nat):Int)
 ·have e:ofS shape ch tx=(dZ, -1,23):=by rw [ofS,if_pos (by omega)]
  rw [e]
  simp +decide only [go_sem,WR,WS,e1,zz r1,h2,y1,jq,eb,gb]
  exact ⟨_,rfl,DV.zero _⟩
 cases ch with
 | false =>
   have e:ofS shape false tx=(dZ, -1,22):=by rw [ofS,if_neg (by omega),if_pos rfl]
   rw [e]
   simp +decide only [go_sem,WR,WS,e1,zz r1,h2,y1,jq,eb,gb]
   exact ⟨_,rfl,DV.zero _⟩
 | true =>
 have hn:=(hch rfl).1
 have eo:ofS shape true tx=((makeS (rowsOf shape tx)).1,(makeS (rowsOf shape tx)).2,0):=by rw [ofS,if_neg (by omega),if_neg (by simp)]
 rw [eo]
 obtain ⟨W,hW⟩:∃ W,W=wideOf shape tx:=⟨_,rfl⟩
 obtain ⟨x,hx⟩:∃ x,x=manyOf shape:=⟨_,rfl⟩
 have eR:rowsOf shape tx=rowsC tx W x:=by rw [rowsOf,← hW,← hx]
 rw [eR]
 obtain ⟨w2,e2,x2,hs2,z2⟩:=lay1 w1 (.cells [.string (runesBytes tx)] 1)
 have is2x:=(s2.ext x1).isl
 apply W_join (α:=Option Addr × Nat) (fun k e w=>Ext w1 w∧e.size=61∧x≤4096∧e.get 1= .pointer (some ⟨h.size,0,none⟩)∧e.get 2= .pointer (some ⟨h.size+1,0,none⟩)∧e.get 5= .slice k.1 x k.2∧Sl w 1 k.1 x k.2 (sv (rowsC tx W x)))
 ·intro cont
  by_cases l2:shape.length=2
  ·obtain ⟨X,Y,hsh,hX,hY,hXY,hx',hW'⟩:=is2 (tx:=tx) l2 hc
   rw [← hx] at hx'
   rw [← hW] at hW'
   subst hx'
   subst hW'
   obtain ⟨b0,o0,cs0,rfl,g1,g2,g3⟩:=s1.one (i:=0) (x:= .int .i64 (x:Int)) (by rw [hsh];rfl)
   obtain ⟨b1,o1,cs1,hq,g4,g5,g6⟩:=s1.one (i:=1) (x:= .int .i64 (W:Int)) (by rw [hsh];rfl)
   cases hq
   rw [g2] at g5
   cases g5
   rw [Nat.add_zero] at g3
   have q0:Int.toNat 0=0:=rfl
   have q1:Int.toNat 1=1:=rfl
   have l2':((shape.length:Nat):Int)=2:=by omega
   have gw:∀ {w:Heap},Ext w1 w→(w.get b0).read= .cells cs0 1:=fun k=>by rw [(x1.trans k).2 b0 g1];exact g2
   simp +decide only [go_sem,WR,WS,e1,zz r1,h2,l2',is2x,icvs_rv,e2,zz x2]
   refine W_loop (α:=Nat × Value) (fun k e w=>k.1≤x∧e.size=61∧Ext w1 w∧e.get 1= .pointer (some ⟨h.size,0,none⟩)∧e.get 2= .pointer (some ⟨h.size+1,0,none⟩)∧e.get 5=k.2∧e.get 6= .int .i64 (k.1:Int)∧Own w1.size w 1 k.2 k.1 (sv (rowsC tx W k.1))) (fun k=>x - k.1) (0,.slice none 0 0) ?_ ?_
   ·exact ⟨Nat.zero_le _,by simp +decide only [go_sem],x2,by simp +decide only [go_sem],by simp +decide only [go_sem],by simp +decide only [go_sem],by simp +decide only [go_sem];rfl,Own.nil _ _ _⟩
   rintro ⟨i,tv⟩ e w ⟨hi,hsz,xw,a1',a2',a5,a6,own⟩ next
   simp only at hi a5 a6 own
   have g2w:=gw xw
   by_cases hil:(i:Int) < (x:Int)
   ·have c0:(0:Int)≤(i:Int):=by omega
    have i1:IntKind.i64.wrap ((i:Int)+1)=((i+1:Nat):Int):=by rw [wrap_i64 (by omega) (by omega)];omega
    have hiW:(i+1)*W≤x*W:=Nat.mul_le_mul_right W (by omega)
    have hiW2:i*W≤(i+1)*W:=Nat.mul_le_mul_right W (by omega)
    have m1:IntKind.i64.wrap ((i:Int)*(W:Int))=((i*W:Nat):Int):=by
     rw [← Int.natCast_mul]
     exact wrap_i64 (by omega) (by omega)
    have m2:IntKind.i64.wrap (((i+1:Nat):Int)*(W:Int))=(((i+1)*W:Nat):Int):=by
     rw [← Int.natCast_mul]
     exact wrap_i64 (by omega) (by omega)
    obtain ⟨ca,cc,f1,cs⟩:=Sl.cut (Ext.refl w) (by omega) (s2.ext (x1.trans xw)) (lo:=some (.int .i64 ((i*W:Nat):Int))) (hi:=some (.int .i64 (((i+1)*W:Nat):Int))) (l:=i*W) (u:=(i+1)*W) (bo _ _) (bo _ _) hiW2 (by omega)
    have hrow:((rv tx).drop (i*W*1)).take (((i+1)*W - i*W)*1)=rv ((tx.drop (i*W)).take W):=by
     rw [Nat.mul_one,Nat.mul_one,rv_drop,rv_take,show (i+1)*W - i*W=W by rw [Nat.add_mul];omega]
    rw [hrow] at cs
    have isc:=cs.isl
    have hs:runesBytes ((tx.drop (i*W)).take W)=chunk tx W i:=rfl
    obtain ⟨u1,f2,k1,hu1,zu1⟩:=lay1 w (.cells [.string (chunk tx W i)] 1)
    obtain ⟨u2,f3,own2,hu2,k2⟩:=own_app2 (low:=h.size) (bytes:=16) (k:=1) (new:=[.string (chunk tx W i)]) x1.1 (xw.trans k1) (own.ext k1) (by omega) (by omega) rfl (by omega) (by omega)
    have et:sv (rowsC tx W (i+1))=sv (rowsC tx W i)++[.string (chunk tx W i)]:=by rw [rowsC_snoc,sv_append];rfl
    rw [← et] at own2
    obtain ⟨ta,tc,rfl⟩:=own.shape
    simp +decide only [go_sem,WR,WS,hsz,a1',a5,a6,zz xw,l2',g2w,g3,g6,q0,q1,Nat.add_zero,hil,m1,m2,i1,f1,isc,icvs_rv,hs,f2,zu1,f3]
    exact next (i+1,.slice (some ⟨u1.size,0,none⟩) (i+1) big) _ _ ⟨by simp only;omega,by simp +decide only [go_sem,hsz],k2,by simp +decide only [go_sem,hsz,a1'],by simp +decide only [go_sem,hsz,a2'],by simp +decide only [go_sem,hsz],by simp +decide only [go_sem,hsz],own2⟩ (by simp only;omega)
   ·have hix:i=x:=by omega
    obtain ⟨ta,tc,rfl⟩:=own.shape
    simp +decide only [go_sem,WR,hsz,a1',a5,a6,zz xw,l2',g2w,g3,q0,Nat.add_zero,hil]
    simp +decide only [go_sem,WS]
    exact cont (ta,tc) _ _ ⟨xw,by simp +decide only [go_sem,hsz],hX,by simp +decide only [go_sem,hsz,a1'],by simp +decide only [go_sem,hsz,a2'],by simp +decide only [go_sem,hsz,a5,hix],hix ▸ own.sl⟩
  ·obtain ⟨hx',hW'⟩:=not2 (tx:=tx) l2
   rw [← hx] at hx'
   rw [← hW] at hW'
   have l2':¬ ((shape.length:Nat):Int)=2:=by omega
   have er:rowsC tx W x=[runesBytes tx]:=by
    rw [hx',hW',← chunk_all tx]
    rfl
   have slx:Sl w2 1 (some ⟨w1.size,0,none⟩) x 1 (sv (rowsC tx W x)):=by
    rw [er,hx']
    exact .inr (.inr ⟨w1.size,0,_,rfl,by omega,by omega,by rw [z2];rfl,by simp,rfl,.inl ⟨Nat.le_refl _,by simp [big]⟩⟩)
   simp +decide only [go_sem,WS]
   (rw [WR];simp +decide only [go_sem,WS,e1])
   (rw [WR];simp +decide only [go_sem,WS,zz r1,h2])
   (rw [WR];simp +decide only [go_sem,WS,zz r1])
   (rw [WR];simp +decide only [go_sem,WS,zz r1,is2x,icvs_rv,e2])
   (rw [WR];simp +decide only [go_sem,WS,zz x2,l2'])
   exact cont (some ⟨w1.size,0,none⟩,1) _ _ ⟨x2,by simp +decide only [go_sem],by omega,by simp +decide only [go_sem],by simp +decide only [go_sem],by simp +decide only [go_sem,hx'],slx⟩
 rintro ⟨ra,rc⟩ e0' w ⟨xw,hsz,hx4,a1',a2',a5,sR⟩
 simp only at a5 sR
 obtain ⟨R',hR'⟩:∃ R',R'=rowsC tx W x:=⟨_,rfl⟩
 rw [← hR'] at sR ⊢
 have hn':R'.length=x:=by rw [hR',rowsC_length]
 have mr:=rmake_run R' w (a:=ra) (c:=rc) (by rw [hn'];exact sR) (by omega) (fun y hy=>by
  rw [hR',rowsC,List.mem_map] at hy
  obtain ⟨z,hz,rfl⟩:=hy
  have:=chunk_size (tx:=tx) (W:=W) (i:=z) htb
  omega)
 rw [hn'] at mr
 generalize hM:makeS R'=M at *
 obtain ⟨d,bad⟩:=M
 simp only at mr ⊢
 simp +decide only [go_sem,WR,WS,hsz,a1',a2',a5]
 refine W_call Kok (x1.trans xw).1 mr fun r w9 x9 hr=> ?_
 obtain ⟨u,rfl,D⟩:=hr
 have D':=D
 obtain ⟨p0,c0,p1,c1',p2,c2',rfl, -⟩:=D'
 have k9:=xw.trans x9
 have K9:=x1.trans k9
 obtain ⟨w10,e10,x10,hs10,z10⟩:=lay1 w9 (.cells [.string ByteArray.empty,.string ByteArray.empty,.string ByteArray.empty,.string ByteArray.empty,.slice none 0 0,.slice none 0 0,.slice none 0 0] 7)
 obtain ⟨w11,e11,x11,hs11,z11,_⟩:=put1 x10 (Nat.le_refl _) (.cells (dl d.hd (.slice p0 d.hd.ls.length c0) (.slice p1 d.lines.length c1') (.slice p2 d.labels.length c2')) 7)
 have j9:h.size≤w9.size:=K9.1
 have y11:=yy (k9.trans x11)
 obtain ⟨w12,e12,x12,hs12,z12,_⟩:=put1 (K9.trans x11) jq (.cells (dl d.hd (.slice p0 d.hd.ls.length c0) (.slice p1 d.lines.length c1') (.slice p2 d.labels.length c2')) 7)
 have D11:=D.ext x11
 have D12:=DV.put D11 y11 e12
 simp only [dl] at e11 z11 e12 z12 D12
 simp +decide only [go_sem,WR,WS,hsz,a2',dl,e10,z10,j9,e11,z11,y11,jq,e12,z12]
 exact ⟨_,rfl,D12⟩
theorem padI_get {W k:Nat} {y:ByteArray} (h:k < W):(padI W y)[k]? =some (if k < (runesI y).length then (runesI y).getD k 32 else 32):=by
 unfold padI
 by_cases hk:k < (runesI y).length
 ·rw [if_pos hk,List.getElem?_append_left hk,List.getD_eq_getElem?_getD,List.getElem?_eq_getElem hk]
  rfl
 ·rw [if_neg hk,List.getElem?_append_right (by omega),List.getElem?_replicate,if_pos (by omega)]
set_option maxHeartbeats 4000000 in
theorem rdchars_run (d:DefT) (h:Heap) {v:Value} (V:DV h v d) (G:Heads.Good d.hd) (hm:d.lines.length≤300) (hz:∀ y ∈ rowsT d,y.size≤100000) (hw:∀ y ∈ rowsT d,(runesI y).length≤512) :
  Runs K 28 #[v] h fun r w=>∃ u,r= .tuple #[u,.bool (ok2 (rowsT d).length (wideT (rowsT d)))]∧(ok2 (rowsT d).length (wideT (rowsT d))=true→PV w u ⟨[((rowsT d).length:Int),(wideT (rowsT d):Int)],true,charsT (wideT (rowsT d)) (rowsT d),[]⟩)∧(ok2 (rowsT d).length (wideT (rowsT d))=false→PV w u ⟨[0],false,[],[]⟩):=by
 have V0:=V
 obtain ⟨a,c,a1,c1,a2,c2,rfl,s1,s2,s3⟩:=V0
 refine Runs.of Kok (Does.intro rfl (by decide +kernel) Tryz.func28 rfl ?_)
 obtain ⟨w1,e1,x1,hs1,z1,y1⟩:=lay2 h (.cells (dl d.hd (.slice a d.hd.ls.length c) (.slice a1 d.lines.length c1) (.slice a2 d.labels.length c2)) 7) (.cells [.slice none 0 0,.bool false,.slice none 0 0,.slice none 0 0] 4)
 have dr:=rdrows_run d w1 (V.ext x1) G (by omega)
 simp only [dl] at e1 z1 dr
 have hl:=rows_len d
 generalize hR:rowsT d=R at *
 have hW512:wideT R≤512:=wideT_le hw
 have jq:h.size≤h.size+1:=by omega
 simp +decide only [go_sem,WR,WS,dl,e1,z1]
 refine W_call Kok x1.1 dr fun r w2 x2 hr=> ?_
 obtain ⟨ra,rc,rfl,s⟩:=hr
 simp +decide only [go_sem,WR,WS]
 refine W_loop (α:=Nat) (fun i e w=>i≤R.length∧e.size=83∧Ext w2 w∧e.get 1= .pointer (some ⟨h.size,0,none⟩)∧e.get 2= .pointer (some ⟨h.size+1,0,none⟩)∧e.get 4= .slice ra R.length rc∧e.get 5= .int .i64 ((wideT (R.take i):Nat):Int)∧e.get 6= .int .i64 (i:Int)) (fun i=>R.length - i) 0 ?_ ?_
 ·exact ⟨Nat.zero_le _,by simp +decide only [go_sem],Ext.refl _,by simp +decide only [go_sem],by simp +decide only [go_sem],by simp +decide only [go_sem],by simp +decide only [go_sem];rfl,by simp +decide only [go_sem];rfl⟩
 rintro i e w ⟨hi,hsz,xw,e1',e2',e4,e5,e6⟩ next
 by_cases hil:(i:Int) < ((R.length:Nat):Int)
 ·obtain ⟨b,o,cs,rfl,q2,q3,q4⟩:=text_at (s.ext xw) (i:=i) (by omega)
  obtain ⟨y,hy⟩:∃ y,y=R[i]:=⟨_,rfl⟩
  have hyi:R[i]? =some y:=by rw [hy];exact List.getElem?_eq_getElem (by omega)
  rw [← hy] at q4
  have ws:wideT (R.take (i+1))=max (wideT (R.take i)) (runesI y).length:=by rw [List.take_add_one,hyi,Option.toList_some,wideT_snoc]
  obtain ⟨Lb,rfl⟩:=text_of y
  obtain ⟨l,hl'⟩:∃ l,l=runesI (text Lb):=⟨_,rfl⟩
  rw [← hl'] at ws
  obtain ⟨w3,f1,k1,hs3,z3⟩:=lay1 w (.cells (rv l) 1)
  have ic:=icvt_all (l:=Lb) (h:=w)
  rw [← hl',f1] at ic
  have c0:(0:Int)≤(i:Int):=by omega
  have i1:IntKind.i64.wrap ((i:Int)+1)=((i+1:Nat):Int):=by rw [wrap_i64 (by omega) (by omega)];omega
  by_cases hg:((wideT (R.take i):Nat):Int) < ((l.length:Nat):Int)
  ·have hm:wideT (R.take (i+1))=l.length:=by omega
   simp +decide only [go_sem,WR,WS,hsz,e4,e5,e6,hil,c0,Int.toNat_natCast,q3,q4,ic,hg,i1]
   exact next (i+1) _ _ ⟨by omega,by simp +decide only [go_sem,hsz],xw.trans k1,by simp +decide only [go_sem,hsz,e1'],by simp +decide only [go_sem,hsz,e2'],by simp +decide only [go_sem,hsz,e4],by simp +decide only [go_sem,hsz,hm],by simp +decide only [go_sem,hsz]⟩ (by omega)
  ·have hm:wideT (R.take (i+1))=wideT (R.take i):=by omega
   simp +decide only [go_sem,WR,WS,hsz,e4,e5,e6,hil,c0,Int.toNat_natCast,q3,q4,ic,hg,i1]
   exact next (i+1) _ _ ⟨by omega,by simp +decide only [go_sem,hsz],xw.trans k1,by simp +decide only [go_sem,hsz,e1'],by simp +decide only [go_sem,hsz,e2'],by simp +decide only [go_sem,hsz,e4],by simp +decide only [go_sem,hsz,e5,hm],by simp +decide only [go_sem,hsz]⟩ (by omega)
 have hie:i=R.length:=by omega
 rw [hie,List.take_length] at e5
 clear next
 obtain ⟨W,hWd⟩:∃ W,W=wideT R:=⟨_,rfl⟩
 rw [← hWd] at e5 hW512 ⊢
 have hwR:∀ y ∈ R,(runesI y).length≤W:=fun y hy=>by rw [hWd];exact wideT_ge hy
 have K0:=(x1.trans x2).trans xw
 obtain ⟨w5,f5,x5,hs5,z5⟩:=lay1 w (.cells [.int .i64 ((R.length:Nat):Int),.int .i64 (W:Int)] 1)
 obtain ⟨w6,f6,x6,hs6,z6⟩:=lay1 w5 (.cells [.slice none 0 0,.bool false,.slice none 0 0,.slice none 0 0] 4)
 obtain ⟨w7,f7,x7,hs7,z7,_⟩:=put1 x6 (Nat.le_refl w5.size) (.cells [.slice (some ⟨w.size,0,none⟩) 2 2,.bool true,.slice none 0 0,.slice none 0 0] 4)
 have K5:=K0.trans x5
 have l5:h.size≤w5.size:=K5.1
 have slS:Sl w5 1 (some ⟨w.size,0,none⟩) 2 2 (iv [((R.length:Nat):Int),(W:Int)]):= .inr (.inr ⟨w.size,0,_,rfl,by omega,by omega,by rw [z5];rfl,by simp,by simp [iv],.inl ⟨Nat.le_refl _,by simp [big]⟩⟩)
 have cr:=rcount_run [((R.length:Nat):Int),(W:Int)] w7 (a:=some ⟨w.size,0,none⟩) (c:=2) (slS.ext x7) (by simp)
 simp only [List.length_cons,List.length_nil,Nat.zero_add,Nat.reduceAdd] at cr
 have hck:cntF [((R.length:Nat):Int),(W:Int)] 1 false=if ok2 R.length W=true then some (R.length*W) else none:=by
  have h1:1≤R.length:=by omega
  by_cases ho:ok2 R.length W=true
  ·rw [if_pos ho]
   simp only [ok2,Bool.and_eq_true,decide_eq_true_eq] at ho
   have hxy:R.length*W≤4096:=by
    have:=Nat.mul_le_mul_left R.length ho.2
    have h2:=Nat.mul_div_le 4096 R.length
    omega
   rw [cnt_pos (by omega) (by omega),Nat.one_mul]
   by_cases hW0:W=0
   ·rw [hW0,show ((0:Nat):Int)=0 from rfl,cnt_zero (by omega),cntF]
    simp
   ·rw [cnt_pos hW0 hxy,cntF]
    simp
  ·rw [if_neg ho]
   simp only [ok2,Bool.and_eq_true,decide_eq_true_eq] at ho
   by_cases h4:R.length≤4096
   ·rw [cnt_pos (by omega) (by omega),Nat.one_mul]
    refine cnt_bad (.inr ?_)
    rw [Int.toNat_natCast]
    have h2:¬ W≤4096 / R.length:=fun hh=>ho ⟨h4,hh⟩
    rw [Nat.le_div_iff_mul_le (by omega),Nat.mul_comm] at h2
    have h3:R.length*W≤R.length*max 1 W:=Nat.mul_le_mul_left _ (by omega)
    omega
   ·exact cnt_bad (.inr (by rw [Int.toNat_natCast];omega))
 have K7:=K5.trans x7
 have y7:w7.get (h.size+1)=_:=((x2.trans (xw.trans (x5.trans x7))).2 _ (by omega)).trans y1
 simp +decide only [go_sem,WR,WS,hsz,e1',e2',e4,e5,e6,hil,f5,f6,z6,l5,f7,z7]
 refine W_call Kok K7.1 cr fun r w8 x8 hr=> ?_
 obtain ⟨hw8,rfl⟩:=hr
 subst hw8
 rw [hck]
 cases ho:ok2 R.length W with
 | false =>
   obtain ⟨w9,f9,x9,hs9,z9⟩:=lay1 w7 (.cells [.int .i64 0] 1)
   have y9:w9.get (h.size+1)=_:=(x9.2 _ (by have:=x2.1;have:=xw.1;omega)).trans y7
   obtain ⟨w10,f10,x10,hs10,z10,_⟩:=put1 (K7.trans x9) jq (.cells [.slice (some ⟨w7.size,0,none⟩) 1 1,.bool false,.slice none 0 0,.slice none 0 0] 4)
   simp +decide only [go_sem,WR,WS,hsz,e2',cntV,Bool.false_eq_true,if_false,f9,y9,jq,f10,z10]
   refine ⟨_,rfl,fun hh=>(by cases hh),fun _=>⟨some ⟨w7.size,0,none⟩,1,none,0,none,0,rfl,?_,Sl.nil _ _,Sl.nil _ _⟩⟩
   exact sl_put (.inr (.inr ⟨w7.size,0,_,rfl,by omega,by omega,by rw [z9];rfl,by simp,by simp [iv],.inl ⟨Nat.le_refl _,by simp [big]⟩⟩)) y9 (by omega) f10
 | true =>
   have hE:∀ {w':Heap} {tv:Value} {T:List Int} {n:Nat},Own w5.size w' 1 tv n (rv T)→w'.get w5.size= .cells [.slice (some ⟨w.size,0,none⟩) 2 2,.bool true,tv,.slice none 0 0] 4→vblk tv≠some w5.size:=fun O g=>O.ne g (by omega)
   simp +decide only [go_sem,WR,WS,hsz,e2',cntV,if_true,e4,e5]
   refine W_loop (α:=Nat × Value) (fun k f w'=>k.1≤R.length∧f.size=83∧Ext w5 w'∧w5.size < w'.size∧w'.get w5.size= .cells [.slice (some ⟨w.size,0,none⟩) 2 2,.bool true,k.2,.slice none 0 0] 4∧Own w5.size w' 1 k.2 (charsT W (R.take k.1)).length (rv (charsT W (R.take k.1))) ∧
    f.get 2= .pointer (some ⟨h.size+1,0,none⟩)∧f.get 4= .slice ra R.length rc∧f.get 5= .int .i64 (W:Int)∧f.get 8= .pointer (some ⟨w5.size,0,none⟩)∧f.get 11= .int .i64 (k.1:Int)) (fun k=>R.length - k.1) (0,.slice none 0 0) ?_ ?_
   ·exact ⟨Nat.zero_le _,by simp +decide only [go_sem,hsz],x7,by omega,z7,Own.nil _ _ _,by simp +decide only [go_sem,hsz,e2'],by simp +decide only [go_sem,hsz,e4],by simp +decide only [go_sem,hsz,e5],by simp +decide only [go_sem,hsz],by simp +decide only [go_sem,hsz];rfl⟩
   rintro ⟨i',tv⟩ f w' ⟨hi',fsz,xw',hb5,gb,own,f2,f4,f5',f8,f11⟩ next
   simp only at hi' gb own f11
   have htl:(charsT W (R.take i')).length=(R.take i').length*W:=charsT_length fun y hy=>hwR y (List.mem_of_mem_take hy)
   have htb:(charsT W (R.take i')).length≤301*512:=by
    rw [htl]
    exact Nat.mul_le_mul (by rw [List.length_take];omega) hW512
   by_cases hil':(i':Int) < ((R.length:Nat):Int)
   case neg =>
    have hie':i'=R.length:=by omega
    rw [hie',List.take_length] at own
    have yw:w'.get (h.size+1)=_:=((x2.trans (xw.trans (x5.trans xw'))).2 _ (by omega)).trans y1
    obtain ⟨ta,tc,rfl⟩:=own.shape
    obtain ⟨w9,f9,x9,hs9,z9,_⟩:=put1 (K5.trans xw') jq (.cells [.slice (some ⟨w.size,0,none⟩) 2 2,.bool true,.slice ta (charsT W R).length tc,.slice none 0 0] 4)
    simp +decide only [go_sem,WR,WS,fsz,f2,f4,f8,f11,hil',gb,yw,jq,f9,z9]
    refine ⟨_,rfl,fun _=>⟨some ⟨w.size,0,none⟩,2,ta,tc,none,0,rfl,?_,?_,Sl.nil _ _⟩,fun hh=>(by cases hh)⟩
    ·exact sl_put (slS.ext xw') yw (by omega) f9
    ·exact sl_put own.sl yw (by omega) f9
   obtain ⟨b,o,cs,rfl,q2,q3,q4⟩:=text_at (s.ext (xw.trans (x5.trans xw'))) (i:=i') (by omega)
   obtain ⟨y,hy⟩:∃ y,y=R[i']:=⟨_,rfl⟩
   have hyi:R[i']? =some y:=by rw [hy];exact List.getElem?_eq_getElem (by omega)
   rw [← hy] at q4
   have hyW:=hwR y (List.mem_of_getElem? hyi)
   have hT:charsT W (R.take (i'+1))=charsT W (R.take i')++padI W y:=by rw [List.take_add_one,hyi,Option.toList_some,charsT_snoc]
   have hpl:=padI_length hyW
   have hpg:=fun (k:Nat) (hk:k < W)=>padI_get (y:=y) hk
   generalize hP:padI W y=P at *
   generalize charsT W (R.take i')=T at *
   obtain ⟨Lb,rfl⟩:=text_of y
   obtain ⟨l,hl'⟩:∃ l,l=runesI (text Lb):=⟨_,rfl⟩
   rw [← hl'] at hyW hpg
   obtain ⟨u1,g1,k1,hsu1,zu1⟩:=lay1 w' (.cells (rv l) 1)
   have ic:=icvt_all (l:=Lb) (h:=w')
   rw [← hl',g1] at ic
   have c0:(0:Int)≤(i':Int):=by omega
   have i1:IntKind.i64.wrap ((i':Int)+1)=((i'+1:Nat):Int):=by rw [wrap_i64 (by omega) (by omega)];omega
   have gb1:u1.get w5.size=_:=(k1.2 _ hb5).trans gb
   have hne:vblk tv≠some w'.size:=by
    rcases own with ⟨rfl,_⟩ | ⟨b',rfl,_,hb',_⟩
    ·simp [vblk]
    ·simp only [vblk,ne_eq,Option.some.injEq]
     omega
   simp +decide only [go_sem,WR,WS,fsz,f4,f8,f11,hil',c0,Int.toNat_natCast,q3,q4,ic]
   refine W_loop (α:=Nat × Value) (fun k e u=>k.1≤W∧e.size=83∧Ext w5 u∧w5.size < u.size∧w'.size < u.size∧u.get w5.size= .cells [.slice (some ⟨w.size,0,none⟩) 2 2,.bool true,k.2,.slice none 0 0] 4∧u.get w'.size= .cells (rv l) 1∧vblk k.2≠some w'.size ∧
    Own w5.size u 1 k.2 (T++P.take k.1).length (rv (T++P.take k.1))∧e.get 2= .pointer (some ⟨h.size+1,0,none⟩)∧e.get 4= .slice (some ⟨b,o,none⟩) R.length rc∧e.get 5= .int .i64 (W:Int)∧e.get 8= .pointer (some ⟨w5.size,0,none⟩)∧e.get 11= .int .i64 (i':Int)∧e.get 12= .slice (some ⟨w'.size,0,none⟩) l.length big∧e.get 13= .int .i64 (k.1:Int))
    (fun k=>W - k.1) (0,tv) ?_ ?_
   ·refine ⟨Nat.zero_le _,by simp +decide only [go_sem,fsz],xw'.trans k1,by omega,by omega,gb1,zu1,hne,?_,by simp +decide only [go_sem,fsz,f2],by simp +decide only [go_sem,fsz,f4],by simp +decide only [go_sem,fsz,f5'],by simp +decide only [go_sem,fsz,f8],by simp +decide only [go_sem,fsz,f11],by simp +decide only [go_sem,fsz],by simp +decide only [go_sem,fsz];rfl⟩
    simp only [List.take_zero,List.append_nil]
    exact own.ext k1
   clear fsz f2 f4 f5' f8 f11
   rintro ⟨k,tv'⟩ e0 u ⟨hk,fsz,xu,hu5,huw,gu,gr,hne',own',f2,f4,f5',f8,f11,f12,f13⟩ next2
   simp only at hk gu hne' own' f13
   obtain ⟨ta,tc,rfl⟩:=own'.shape
   have hPl:(P.take k).length=k:=by rw [List.length_take];omega
   have hTl:(T++P.take k).length≤200000:=by rw [List.length_append,hPl];omega
   have hne5:=hE own' gu
   by_cases hkW:(k:Int) < (W:Int)
   case neg =>
    have hkk:k=W:=by omega
    have hTP:P.take k=P:=List.take_of_length_le (by omega)
    rw [hTP] at own' gu
    rw [← hT] at own' gu
    simp +decide only [go_sem,WR,WS,fsz,f5',f11,f13,hkW,i1]
    exact next (i'+1,.slice ta (charsT W (R.take (i'+1))).length tc) _ _ ⟨by simp only;omega,by simp +decide only [go_sem,fsz],xu,hu5,gu,own',by simp +decide only [go_sem,fsz,f2],by simp +decide only [go_sem,fsz,f4],by simp +decide only [go_sem,fsz,f5'],by simp +decide only [go_sem,fsz,f8],by simp +decide only [go_sem,fsz]⟩ (by simp only;omega)
   have hpk:=hpg k (by omega)
   have k0:(0:Int)≤(k:Int):=by omega
   have j1:IntKind.i64.wrap ((k:Int)+1)=((k+1:Nat):Int):=by rw [wrap_i64 (by omega) (by omega)];omega
   have step:∀ (c:Int),P[k]? =some c→∃ u1 u2 u3:Heap,u.push (.cells [.int .i32 c] 1)=u1∧u1.get u.size= .cells [.int .i32 c] 1∧u1.get w5.size= .cells [.slice (some ⟨w.size,0,none⟩) 2 2,.bool true,.slice ta (T++P.take k).length tc,.slice none 0 0] 4 ∧
     iapp h.size u1 1 4 (.slice ta (T++P.take k).length tc) 1 (some [.int .i32 c])=some (.slice (some ⟨u1.size,0,none⟩) ((T++P.take k).length+1) big,u2)∧u2.get w5.size= .cells [.slice (some ⟨w.size,0,none⟩) 2 2,.bool true,.slice ta (T++P.take k).length tc,.slice none 0 0] 4 ∧
     u2.set w5.size (.cells [.slice (some ⟨w.size,0,none⟩) 2 2,.bool true,.slice (some ⟨u1.size,0,none⟩) ((T++P.take k).length+1) big,.slice none 0 0] 4)=u3∧Ext w5 u3∧w5.size < u3.size∧w'.size < u3.size ∧
     u3.get w5.size= .cells [.slice (some ⟨w.size,0,none⟩) 2 2,.bool true,.slice (some ⟨u1.size,0,none⟩) ((T++P.take k).length+1) big,.slice none 0 0] 4∧u3.get w'.size= .cells (rv l) 1∧u1.size≠w'.size∧Own w5.size u3 1 (.slice (some ⟨u1.size,0,none⟩) ((T++P.take k).length+1) big) (T++P.take (k+1)).length (rv (T++P.take (k+1))):=by
    intro c hc
    obtain ⟨u1,a1,b1,hs1,d1⟩:=lay1 u (.cells [.int .i32 c] 1)
    obtain ⟨u2,a2,own2,hs2,b2,o2⟩:=app_oth (low:=h.size) (bytes:=4) (k:=1) (new:=[.int .i32 c]) l5 (xu.trans b1) (own'.ext b1) (by omega) (by omega) rfl (by omega) (by omega)
    have p1:u1.get w5.size=_:=(b1.2 _ hu5).trans gu
    have p2:u2.get w5.size=_:=(o2 _ (by omega) hne5).trans p1
    have p3:u2.get w'.size=_:=(o2 _ (by omega) hne').trans ((b1.2 _ huw).trans gr)
    obtain ⟨u3,a3,b3,hs3,d3,o3⟩:=put1 b2 (Nat.le_refl w5.size) (.cells [.slice (some ⟨w.size,0,none⟩) 2 2,.bool true,.slice (some ⟨u1.size,0,none⟩) ((T++P.take k).length+1) big,.slice none 0 0] 4)
    have own3:=own_put own2 p2 (by omega) a3
    have hw5w:w'.size≠w5.size:=by omega
    have et:rv (T++P.take (k+1))=rv (T++P.take k)++[.int .i32 c]:=by
     rw [List.take_add_one,hc,← List.append_assoc,rv_append]
     rfl
    have el:(T++P.take (k+1)).length=(T++P.take k).length+1:=by
     rw [List.take_add_one,hc,← List.append_assoc,List.length_append]
     rfl
    refine ⟨u1,u2,u3,a1,d1,p1,a2,p2,a3,b3,by omega,by omega,d3,(o3 _ hw5w).trans p3,by omega,?_⟩
    rw [et,el]
    exact own3
   by_cases hkl:(k:Int) < ((l.length:Nat):Int)
   ·obtain ⟨c,hc⟩:∃ c,l[k]? =some c:=⟨_,List.getElem?_eq_getElem (by omega)⟩
    rw [if_pos (by omega),List.getD_eq_getElem?_getD,hc] at hpk
    obtain ⟨u1,u2,u3,a1,d1,p1,a2,p2,a3,b3,b4,b5,d3,d4,d5,own3⟩:=step c hpk
    have gc:=rv_get hc
    simp +decide only [go_sem,WR,WS,fsz,f5',f8,f12,f13,hkW,hkl,k0,Int.toNat_natCast,gu,gr,gc,a1,d1,p1,a2,p2,l5,a3,j1]
    exact next2 (k+1,.slice (some ⟨u1.size,0,none⟩) ((T++P.take k).length+1) big) _ _ ⟨by simp only;omega,by simp +decide only [go_sem,fsz],b3,b4,b5,d3,d4,by simp only [vblk,ne_eq,Option.some.injEq];exact d5,own3,by simp +decide only [go_sem,fsz,f2],by simp +decide only [go_sem,fsz,f4],by simp +decide only [go_sem,fsz,f5'],by simp +decide only [go_sem,fsz,f8],by simp +decide only [go_sem,fsz,f11],by simp +decide only [go_sem,fsz,f12],by simp +decide only [go_sem,fsz]⟩ (by simp only;omega)
   ·rw [if_neg (by omega)] at hpk
    obtain ⟨u1,u2,u3,a1,d1,p1,a2,p2,a3,b3,b4,b5,d3,d4,d5,own3⟩:=step 32 hpk
    simp +decide only [go_sem,WR,WS,fsz,f5',f8,f12,f13,hkW,hkl,k0,Int.toNat_natCast,gu,a1,d1,p1,a2,p2,l5,a3,j1]
    exact next2 (k+1,.slice (some ⟨u1.size,0,none⟩) ((T++P.take k).length+1) big) _ _ ⟨by simp only;omega,by simp +decide only [go_sem,fsz],b3,b4,b5,d3,d4,by simp only [vblk,ne_eq,Option.some.injEq];exact d5,own3,by simp +decide only [go_sem,fsz,f2],by simp +decide only [go_sem,fsz,f4],by simp +decide only [go_sem,fsz,f5'],by simp +decide only [go_sem,fsz,f8],by simp +decide only [go_sem,fsz,f11],by simp +decide only [go_sem,fsz,f12],by simp +decide only [go_sem,fsz]⟩ (by simp only;omega)
end Go.Proofs.YtachkofbmodnnaaGreatDoor.P6
namespace Go.Proofs.YtachkofbmodnnaaGreatDoor.P7
open Go Go.Im Go.Im.Limbs Go.Im.Lexing Go.Im.Defn Go.Im.Arrays Go.Proofs Go.RowKit Hd M8 M9 P3
set_option maxRecDepth 100000
theorem plain_run (shape tx:List Int) (h:Heap) {v:Value} (V:AV h v shape tx) (hn:shape.length≤1000) (ht:tx.length≤1000000):Runs K 30 #[v] h fun r w=>PV w r ⟨shape,true,tx,[]⟩:=by
 have V0:=V
 obtain ⟨a,c,a1,c1,rfl,s1,s2⟩:=V0
 refine Runs.of Kok (Does.intro rfl (by decide +kernel) Tryz.func30 rfl ?_)
 obtain ⟨w1,e1,x1,hs1,z1,y1⟩:=lay2 h (.cells [.slice a shape.length c,.bool true,.slice a1 tx.length c1,.slice none 0 0,.bool true] 5) (.cells [.slice none 0 0,.bool false,.slice none 0 0,.slice none 0 0] 4)
 have zz:∀ {w:Heap},Ext w1 w→w.get h.size=_:=fun k=>(k.2 _ (by omega)).trans z1
 have yy:∀ {w:Heap},Ext w1 w→w.get (h.size+1)=_:=fun k=>(k.2 _ (by omega)).trans y1
 have jq:h.size≤h.size+1:=by omega
 simp +decide only [go_sem,WR,WS,e1,z1]
 refine W_call Kok x1.1 (shape_run shape tx w1 (V.ext x1) hn) fun r w2 x2 hr=> ?_
 obtain ⟨sa,sc,rfl,ss⟩:=hr
 simp +decide only [go_sem,WR,WS,zz x2]
 refine W_call Kok (x1.trans x2).1 (arunes_run shape tx w2 (V.ext (x1.trans x2)) ht) fun r w3 x3 hr=> ?_
 obtain ⟨ta,tc,rfl,ts⟩:=hr
 have k3:=x2.trans x3
 have K3:=x1.trans k3
 have l3:h.size≤w3.size:=K3.1
 obtain ⟨w4,e4,x4,hs4,z4⟩:=lay1 w3 (.cells [.slice none 0 0,.bool false,.slice none 0 0,.slice none 0 0] 4)
 obtain ⟨w5,e5,x5,hs5,z5,_⟩:=put1 x4 (Nat.le_refl w3.size) (.cells [.slice sa shape.length sc,.bool true,.slice ta tx.length tc,.slice none 0 0] 4)
 have k5:=k3.trans x5
 simp +decide only [go_sem,WR,WS,e4,z4,l3,e5,zz k5]
 rw [W_round]
 obtain ⟨w6,e6,x6,hs6,z6,_⟩:=put1 (x1.trans k5) jq (.cells [.slice sa shape.length sc,.bool true,.slice ta tx.length tc,.slice none 0 0] 4)
 simp +decide only [go_sem,WR,WS,z5,yy k5,jq,e6,z6]
 exact ⟨sa,sc,ta,tc,none,0,rfl,sl_put (ss.ext (x3.trans x5)) (yy k5) (by omega) e6,sl_put (ts.ext x5) (yy k5) (by omega) e6,Sl.nil _ _⟩
theorem plain0_run (h:Heap):Runs K 30 #[azero] h fun r w=>PV w r ⟨[0],false,[],[]⟩:=by
 refine Runs.of Kok (Does.intro rfl (by decide +kernel) Tryz.func30 rfl ?_)
 obtain ⟨w1,e1,x1,hs1,z1,y1⟩:=lay2 h (.cells [.slice none 0 0,.bool false,.slice none 0 0,.slice none 0 0,.bool false] 5) (.cells [.slice none 0 0,.bool false,.slice none 0 0,.slice none 0 0] 4)
 have zz:∀ {w:Heap},Ext w1 w→w.get h.size=_:=fun k=>(k.2 _ (by omega)).trans z1
 have yy:∀ {w:Heap},Ext w1 w→w.get (h.size+1)=_:=fun k=>(k.2 _ (by omega)).trans y1
 have jq:h.size≤h.size+1:=by omega
 have sh:=shape0_run w1
 simp only [azero] at sh
 have nr:∀ w:Heap,Runs K 68 #[.agg #[.slice none 0 0,.bool false,.slice none 0 0,.slice none 0 0,.bool false]] w fun r w=>∃ a c,r= .slice a 0 c∧Sl w 1 a 0 c []:=by
  intro w
  refine Runs.of Kok (Does.intro rfl (by decide +kernel) Tryz.func68 rfl ?_)
  obtain ⟨u1,f1,k1,hu1,zu1⟩:=lay1 w (.cells [.slice none 0 0,.bool false,.slice none 0 0,.slice none 0 0,.bool false] 5)
  simp +decide only [go_sem,WR,WS,f1,zu1]
  refine W_call Kok k1.1 (cloner_run u1 (Sl.nil u1 1) (by omega)) fun r u2 k2 hr=> ?_
  obtain ⟨sa,sc,rfl,ss⟩:=hr
  simp +decide only [go_sem,WR,WS]
  exact ⟨_,_,rfl,ss⟩
 simp +decide only [go_sem,WR,WS,azero,e1,z1]
 refine W_call Kok x1.1 sh fun r w2 x2 hr=> ?_
 obtain ⟨b,rfl,hb,gb⟩:=hr
 simp +decide only [go_sem,WR,WS,zz x2]
 refine W_call Kok (x1.trans x2).1 (nr w2) fun r w3 x3 hr=> ?_
 obtain ⟨ta,tc,rfl,ts⟩:=hr
 have k3:=x2.trans x3
 have K3:=x1.trans k3
 have l3:h.size≤w3.size:=K3.1
 obtain ⟨w4,e4,x4,hs4,z4⟩:=lay1 w3 (.cells [.slice none 0 0,.bool false,.slice none 0 0,.slice none 0 0] 4)
 obtain ⟨w5,e5,x5,hs5,z5,_⟩:=put1 x4 (Nat.le_refl w3.size) (.cells [.slice (some ⟨b,0,none⟩) 1 1,.bool false,.slice ta 0 tc,.slice none 0 0] 4)
 have k5:=k3.trans x5
 simp +decide only [go_sem,WR,WS,e4,z4,l3,e5,zz k5]
 rw [W_round]
 obtain ⟨w6,e6,x6,hs6,z6,_⟩:=put1 (x1.trans k5) jq (.cells [.slice (some ⟨b,0,none⟩) 1 1,.bool false,.slice ta 0 tc,.slice none 0 0] 4)
 simp +decide only [go_sem,WR,WS,z5,yy k5,jq,e6,z6]
 have slb:Sl w5 1 (some ⟨b,0,none⟩) 1 1 (iv [0]):= .inr (.inr ⟨b,0,_,rfl,by omega,by have:=(x3.trans x5).1;omega,by rw [(x3.trans x5).2 b hb,gb];rfl,by simp,by simp [iv],.inl ⟨Nat.le_refl _,by simp [big]⟩⟩)
 exact ⟨_,_,ta,tc,none,0,rfl,sl_put slb (yy k5) (by omega) e6,sl_put (ts.ext x5) (yy k5) (by omega) e6,Sl.nil _ _⟩
theorem isame_run (xs:List Int) (h:Heap) {a a2:Option Addr} {c c2:Nat} (s:Sl h 1 a xs.length c (iv xs)) (s2:Sl h 1 a2 xs.length c2 (iv xs)) (hl:xs.length≤1000000):Runs K 72 #[.slice a xs.length c,.slice a2 xs.length c2] h fun r w=>h=w∧r= .bool true:=by
 refine Runs.of Kok (Does.intro rfl (by decide +kernel) Tryz.func72 rfl ?_)
 simp +decide only [go_sem,WR,WS]
 refine W_loop (α:=Nat) (fun i e w=>i≤xs.length∧e.size=26∧h=w∧e.get 0= .slice a xs.length c∧e.get 1= .slice a2 xs.length c2∧e.get 5= .int .i64 (i:Int)) (fun i=>xs.length - i) 0 ?_ ?_
 ·exact ⟨Nat.zero_le _,by simp +decide only [go_sem],rfl,by simp +decide only [go_sem],by simp +decide only [go_sem],by simp +decide only [go_sem];rfl⟩
 rintro i e w ⟨hi,hsz,hw,e0,e1,e5⟩ next
 subst hw
 by_cases hc:(i:Int) < ((xs.length:Nat):Int)
 ·obtain ⟨d,hd⟩:∃ d,xs[i]? =some d:=⟨_,List.getElem?_eq_getElem (by omega)⟩
  obtain ⟨b,o,cs,rfl,p2,p3,p4⟩:=s.one (iv_get hd)
  obtain ⟨b2,o2,cs2,rfl,q2,q3,q4⟩:=s2.one (iv_get hd)
  have c0:(0:Int)≤(i:Int):=by omega
  have i1:IntKind.i64.wrap ((i:Int)+1)=((i+1:Nat):Int):=by rw [wrap_i64 (by omega) (by omega)];omega
  simp +decide only [go_sem,WR,WS,hsz,e0,e1,e5,c0,hc,Int.toNat_natCast,p3,p4,q3,q4,Nat.mul_one,i1]
  exact next (i+1) _ _ ⟨by omega,by simp +decide only [go_sem,hsz],rfl,by simp +decide only [go_sem,hsz,e0],by simp +decide only [go_sem,hsz,e1],by simp +decide only [go_sem,hsz]⟩ (by omega)
 ·simp +decide only [go_sem,WR,WS,hsz,e0,e1,e5,hc]
theorem rsame_run (xs:List Int) (h:Heap) {a a2:Option Addr} {c c2:Nat} (s:Sl h 1 a xs.length c (rv xs)) (s2:Sl h 1 a2 xs.length c2 (rv xs)) (hl:xs.length≤1000000):Runs K 73 #[.slice a xs.length c,.slice a2 xs.length c2] h fun r w=>h=w∧r= .bool true:=by
 refine Runs.of Kok (Does.intro rfl (by decide +kernel) Tryz.func73 rfl ?_)
 simp +decide only [go_sem,WR,WS]
 refine W_loop (α:=Nat) (fun i e w=>i≤xs.length∧e.size=26∧h=w∧e.get 0= .slice a xs.length c∧e.get 1= .slice a2 xs.length c2∧e.get 5= .int .i64 (i:Int)) (fun i=>xs.length - i) 0 ?_ ?_
 ·exact ⟨Nat.zero_le _,by simp +decide only [go_sem],rfl,by simp +decide only [go_sem],by simp +decide only [go_sem],by simp +decide only [go_sem];rfl⟩
 rintro i e w ⟨hi,hsz,hw,e0,e1,e5⟩ next
 subst hw
 by_cases hc:(i:Int) < ((xs.length:Nat):Int)
 ·obtain ⟨d,hd⟩:∃ d,xs[i]? =some d:=⟨_,List.getElem?_eq_getElem (by omega)⟩
  obtain ⟨b,o,cs,rfl,p2,p3,p4⟩:=s.one (rv_get hd)
  obtain ⟨b2,o2,cs2,rfl,q2,q3,q4⟩:=s2.one (rv_get hd)
  have c0:(0:Int)≤(i:Int):=by omega
  have i1:IntKind.i64.wrap ((i:Int)+1)=((i+1:Nat):Int):=by rw [wrap_i64 (by omega) (by omega)];omega
  simp +decide only [go_sem,WR,WS,hsz,e0,e1,e5,c0,hc,Int.toNat_natCast,p3,p4,q3,q4,Nat.mul_one,i1]
  exact next (i+1) _ _ ⟨by omega,by simp +decide only [go_sem,hsz],rfl,by simp +decide only [go_sem,hsz,e0],by simp +decide only [go_sem,hsz,e1],by simp +decide only [go_sem,hsz]⟩ (by omega)
 ·simp +decide only [go_sem,WR,WS,hsz,e0,e1,e5,hc]
theorem same06_run (shape tx:List Int) (ch:Bool) (h:Heap) {v u:Value} (V:PV h v ⟨shape,ch,tx,[]⟩) (U:PV h u ⟨shape,ch,tx,[]⟩) (h1:shape.length≤1000000) (h2:tx.length≤1000000):Runs K 29 #[v,u] h fun r w=>r= .bool true:=by
 obtain ⟨a,c,a1,c1,a2,c2,rfl,s1,s2,s3⟩:=V
 obtain ⟨b,d,b1,d1,b2,d2,rfl,t1,t2,t3⟩:=U
 simp only [List.length_nil] at s1 s2 s3 t1 t2 t3 ⊢
 refine Runs.of Kok (Does.intro rfl (by decide +kernel) Tryz.func29 rfl ?_)
 obtain ⟨w0,e0,x0,hs0,z0,y0⟩:=lay2 h (.cells [.slice a shape.length c,.bool ch,.slice a1 tx.length c1,.slice a2 0 c2] 4) (.cells [.slice b shape.length d,.bool ch,.slice b1 tx.length d1,.slice b2 0 d2] 4)
 have hb:∀ t,ibinop Tryz.prog .neq t (.bool ch) (.bool ch)=ibinop Tryz.prog .neq t (.bool true) (.bool true)∨True:=fun _=> .inr trivial
 have is:=isame_run shape w0 (s1.ext x0) (t1.ext x0) h1
 have rs:=rsame_run tx w0 (s2.ext x0) (t2.ext x0) h2
 cases ch
 all_goals
  simp +decide only [go_sem,WR,WS,e0,z0,y0]
  refine W_call Kok x0.1 is fun r w x hr=> ?_
  obtain ⟨hw,rfl⟩:=hr
  subst hw
  simp +decide only [go_sem,WR,WS,z0,y0]
  refine W_call Kok x0.1 rs fun r w x hr=> ?_
  obtain ⟨hw,rfl⟩:=hr
  subst hw
  simp +decide only [go_sem,WR,WS,z0,y0]
  rw [W_round]
  simp +decide only [go_sem,WR,WS,z0]
end Go.Proofs.YtachkofbmodnnaaGreatDoor.P7
