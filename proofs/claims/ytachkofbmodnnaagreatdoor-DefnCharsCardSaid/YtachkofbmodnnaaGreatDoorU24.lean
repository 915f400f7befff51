/- Proved here: parts of the way to BDefnChars (BM1 BP8 BM5); no condition beyond those that each theorem names. -/
import Derived.Test.YtachkofbmodnnaaGreatDoorU20
import Derived.Test.YtachkofbmodnnaaGreatDoorU23
import Derived.Test.YtachkofbmodnnaaGreatDoorU5
set_option linter.unusedSimpArgs false
set_option linter.unusedVariables false
namespace Go.Proofs.YtachkofbmodnnaaGreatDoor.M1
open Go Go.Im Go.Im.Limbs Go.Im.Lexing Go.Im.Heads Go.Im.Editing Go.Im.Defn Go.Proofs Go.RowKit Hd N19 H2 H3 H4 H5 H7 D2 D3 D4
set_option maxRecDepth 100000
theorem of_run (x:HdT) (v:Value) (hv:∃ a n c,v= .slice a n c) (h:Heap):Runs K 54 #[.agg (hl x v).toArray] h fun r w=>r= .agg (hl x v).toArray:=by
 obtain ⟨a,n,c,rfl⟩:=hv
 refine Runs.of Kok (Does.intro rfl (by decide +kernel) Tryz.func54 rfl ?_)
 obtain ⟨w0,e0,x0,hs0,z0,z1⟩:=lay2 h (.cells [.string x.nm,.string x.re,.string x.le,.string x.ri,.slice a n c] 5) (.cells [.string ByteArray.empty,.string ByteArray.empty,.string ByteArray.empty,.string ByteArray.empty,.slice none 0 0] 5)
 have j1:h.size≤h.size+1:=by omega
 obtain ⟨w1,e1,x1,hs1,g1,_⟩:=put1 x0 j1 (.cells [.string x.nm,.string x.re,.string x.le,.string x.ri,.slice a n c] 5)
 simp +decide only [go_sem,WR,WS,hl,e0,z0,z1,j1,e1,g1]
theorem same_run (x:HdT) (h:Heap) {a a2:Option Addr} {c c2:Nat} (s:Sl h 1 a x.ls.length c (sv x.ls)) (s2:Sl h 1 a2 x.ls.length c2 (sv x.ls)) (hl':x.ls.length≤1000) :
  Runs K 51 #[.agg (hl x (.slice a x.ls.length c)).toArray,.agg (hl x (.slice a2 x.ls.length c2)).toArray] h fun r w=>r= .bool true:=by
 refine Runs.of Kok (Does.intro rfl (by decide +kernel) Tryz.func51 rfl ?_)
 obtain ⟨w0,e0,x0,hs0,z0,z1⟩:=lay2 h (.cells [.string x.nm,.string x.re,.string x.le,.string x.ri,.slice a x.ls.length c] 5) (.cells [.string x.nm,.string x.re,.string x.le,.string x.ri,.slice a2 x.ls.length c2] 5)
 simp +decide only [go_sem,WR,WS,hl,e0,z0,z1]
 refine W_loop (α:=Nat) (fun i e w=>i≤x.ls.length∧e.size=57∧w=w0∧e.get 2= .pointer (some ⟨h.size,0,none⟩)∧e.get 3= .pointer (some ⟨h.size+1,0,none⟩)∧e.get 5= .int .i64 (i:Int)) (fun i=>x.ls.length - i) 0 ?_ ?_
 ·exact ⟨Nat.zero_le _,by simp +decide only [go_sem],rfl,by simp +decide only [go_sem],by simp +decide only [go_sem],by simp +decide only [go_sem];rfl⟩
 ·rintro i e w ⟨hi,hsz,hw,g0,g1,g5⟩ next
  subst hw
  by_cases hc:(i:Int) < ((x.ls.length:Nat):Int)
  ·obtain ⟨b,o,cs,rfl,p2,p3,p4⟩:=text_at (s.ext x0) (i:=i) (by omega)
   obtain ⟨b2,o2,cs2,rfl,_,q3,q4⟩:=text_at (s2.ext x0) (i:=i) (by omega)
   have c0:(0:Int)≤(i:Int):=by omega
   have i1:IntKind.i64.wrap ((i:Int)+1)=((i+1:Nat):Int):=by rw [wrap_i64 (by omega) (by omega)];omega
   simp +decide only [go_sem,WR,WS,hsz,g0,g1,g5,z0,z1,c0,hc,Int.toNat_natCast,p3,p4,q3,q4,Nat.mul_one,i1]
   exact next (i+1) _ _ ⟨by omega,by simp +decide only [go_sem,hsz],rfl,by simp +decide only [go_sem,hsz,g0],by simp +decide only [go_sem,hsz,g1],by simp +decide only [go_sem,hsz]⟩ (by omega)
  ·simp +decide only [go_sem,WR,WS,hsz,g0,g1,g5,z0,z1,hc]
theorem lclone_run (lb:List (ByteArray × Nat)) (h:Heap) {a:Option Addr} {c:Nat} (s:Sl h 2 a lb.length c (lbv lb)) (hm:lb.length≤1000000) :
  Runs K 89 #[.slice a lb.length c] h fun r w=>∃ a' c',r= .slice a' lb.length c'∧Sl w 2 a' lb.length c' (lbv lb):=by
 refine Runs.of Kok (Does.intro rfl (by decide +kernel) Tryz.func89 rfl ?_)
 cases a with
 | none =>
   have h0:lb.length=0:=by
    rcases s with ⟨_,h0,_⟩ | ⟨_,_,hh,_⟩ | ⟨_,_,_,hh,_⟩
    ·exact h0
    ·cases hh
    ·cases hh
   have:lb=[]:=List.eq_nil_of_length_eq_zero h0
   subst this
   simp +decide only [go_sem,WR,WS]
   exact ⟨_,_,rfl,Sl.nil _ _⟩
 | some ad =>
   obtain ⟨w1,e1,x1,hs1,g1⟩:=lay1 h (.cells [] 2)
   have hi:=(s.ext x1).isl
   obtain ⟨a2,c2,w2,e2,x2,_,s2⟩:=app0 (low:=h.size) (bytes:=24) (k:=lb.length) (new:=lbv lb) g1 (by omega) (by omega) (lbv_length lb) (by omega) (by omega)
   simp +decide only [go_sem,WR,WS,e1,hi,e2]
   exact ⟨_,_,rfl,s2⟩
theorem labels_run (d:DefT) (h:Heap) {v:Value} (V:DV h v d) (hm:d.labels.length≤1000000):Runs K 53 #[v] h fun r w=>∃ a c,r= .slice a d.labels.length c∧Sl w 2 a d.labels.length c (lbv d.labels):=by
 obtain ⟨a,c,a1,c1,a2,c2,rfl,s1,s2,s3⟩:=V
 refine Runs.of Kok (Does.intro rfl (by decide +kernel) Tryz.func53 rfl ?_)
 obtain ⟨w1,e1,x1,hs1,z1⟩:=lay1 h (.cells (dl d.hd (.slice a d.hd.ls.length c) (.slice a1 d.lines.length c1) (.slice a2 d.labels.length c2)) 7)
 simp only [dl] at e1 z1
 simp +decide only [go_sem,WR,WS,dl,e1,z1]
 refine W_call Kok x1.1 (lclone_run d.labels w1 (s3.ext x1) hm) fun r w2 x2 hr=> ?_
 obtain ⟨la,lc,rfl,ls⟩:=hr
 simp +decide only [go_sem,WR,WS]
 exact ⟨_,_,rfl,ls⟩
theorem len_run (d:DefT) (h:Heap) {v:Value} (V:DV h v d):Runs K 16 #[v] h fun r w=>r= .int .i64 ((d.lines.length:Nat):Int):=by
 obtain ⟨a,c,a1,c1,a2,c2,rfl,s1,s2,s3⟩:=V
 refine Runs.of Kok (Does.intro rfl (by decide +kernel) Tryz.func16 rfl ?_)
 obtain ⟨w1,e1,x1,hs1,z1⟩:=lay1 h (.cells (dl d.hd (.slice a d.hd.ls.length c) (.slice a1 d.lines.length c1) (.slice a2 d.labels.length c2)) 7)
 simp only [dl] at e1 z1
 simp +decide only [go_sem,WR,WS,dl,e1,z1]
theorem lbv_at:∀ {lb:List (ByteArray × Nat)} {i:Nat} {p:ByteArray × Nat},lb[i]? =some p→(lbv lb)[i*2]? =some (.string p.1)∧(lbv lb)[i*2+1]? =some (.int .i64 (p.2:Int))
 | [],i,p,h=>by simp at h
 | q::rows,0,p,h=>by
   cases h
   exact ⟨rfl,rfl⟩
 | q::rows,i+1,p,h=>by
   have e:lbv (q::rows)= .string q.1:: .int .i64 (q.2:Int)::lbv rows:=rfl
   obtain ⟨h1,h2⟩:=lbv_at (lb:=rows) (i:=i) (by simpa using h)
   rw [e,show (i+1)*2=i*2+2 by omega]
   exact ⟨h1,by rw [show i*2+2+1=i*2+1+2 by omega];exact h2⟩
theorem sl_label {h:Heap} {a:Option Addr} {c i:Nat} {lb:List (ByteArray × Nat)} (s:Sl h 2 a lb.length c (lbv lb)) {p:ByteArray × Nat} (hp:lb[i]? =some p) :
  ∃ b o cs,a=some ⟨b,o,none⟩∧b < h.size∧(h.get b).read= .cells cs 2∧cs[o+i*2]? =some (.string p.1)∧cs[o+i*2+1]? =some (.int .i64 (p.2:Int)):=by
 have hi:i < lb.length:=(List.getElem?_eq_some_iff.1 hp).1
 obtain ⟨b,o,cs,h1,h2,h3,h4,h5⟩:=s.at hi
 obtain ⟨g1,g2⟩:=lbv_at hp
 have get:∀ j,j < lb.length*2→cs[o+j]? =(lbv lb)[j]? :=fun j hj=>by rw [h5,List.getElem?_take,if_pos hj,List.getElem?_drop]
 exact ⟨b,o,cs,h1,h2,h3,(get (i*2) (by omega)).trans g1,(get (i*2+1) (by omega)).trans g2⟩
set_option maxHeartbeats 4000000 in
theorem same24_run (d:DefT) (h:Heap) {v u:Value} (V:DV h v d) (U:DV h u d) (G:Heads.Good d.hd) (hm:d.lines.length≤900) (hb:d.labels.length≤900):Runs K 15 #[v,u] h fun r w=>r= .bool true:=by
 have V0:=V
 have U0:=U
 obtain ⟨a,c,a1,c1,a2,c2,rfl,s1,s2,s3⟩:=V0
 obtain ⟨b,k,b1,k1,b2,k2,rfl,t1,t2,t3⟩:=U0
 refine Runs.of Kok (Does.intro rfl (by decide +kernel) Tryz.func15 rfl ?_)
 obtain ⟨w0,e0,x0,hs0,z0,y0⟩:=lay2 h (.cells (dl d.hd (.slice a d.hd.ls.length c) (.slice a1 d.lines.length c1) (.slice a2 d.labels.length c2)) 7) (.cells (dl d.hd (.slice b d.hd.ls.length k) (.slice b1 d.lines.length k1) (.slice b2 d.labels.length k2)) 7)
 have lr:=labels_run d w0 (V.ext x0) (by omega)
 simp only [dl] at lr e0 z0 y0
 simp +decide only [go_sem,WR,WS,dl,e0,z0]
 refine W_call Kok x0.1 lr fun r w1 x1 hr=> ?_
 obtain ⟨la,lc,rfl,ls⟩:=hr
 have K1:=x0.trans x1
 have z1:w1.get h.size=_:=(x1.2 _ (by omega)).trans z0
 have y1:w1.get (h.size+1)=_:=(x1.2 _ (by omega)).trans y0
 have lnr:=len_run d w1 (V.ext K1)
 simp only [dl] at lnr
 simp +decide only [go_sem,WR,WS,z1,y1]
 refine W_call Kok K1.1 lnr fun r w2 x2 hr=> ?_
 subst hr
 have K2:=K1.trans x2
 have z2:w2.get h.size=_:=(x2.2 _ (by have:=x1.1;omega)).trans z1
 have y2:w2.get (h.size+1)=_:=(x2.2 _ (by have:=x1.1;omega)).trans y1
 have ofr:=of_run d.hd (.slice a d.hd.ls.length c) ⟨_,_,_,rfl⟩ w2
 simp only [H2.hl] at ofr
 simp +decide only [go_sem,WR,WS,z2,y2]
 refine W_call Kok K2.1 ofr fun r w3 x3 hr=> ?_
 subst hr
 have K3:=K2.trans x3
 have z3:w3.get h.size=_:=(x3.2 _ (by have:=x1.1;have:=x2.1;omega)).trans z2
 have y3:w3.get (h.size+1)=_:=(x3.2 _ (by have:=x1.1;have:=x2.1;omega)).trans y2
 have smr:=same_run d.hd w3 (s1.ext K3) (t1.ext K3) (by have:=G.few;omega)
 simp only [H2.hl] at smr
 simp +decide only [go_sem,WR,WS,z3,y3]
 refine W_call Kok K3.1 smr fun r w4 x4 hr=> ?_
 subst hr
 have K4:=K3.trans x4
 have z4:w4.get h.size=_:=(x4.2 _ (by have:=x1.1;have:=x2.1;have:=x3.1;omega)).trans z3
 have y4:w4.get (h.size+1)=_:=(x4.2 _ (by have:=x1.1;have:=x2.1;have:=x3.1;omega)).trans y3
 have ls4:=ls.ext (x2.trans (x3.trans x4))
 have lt4:=t3.ext K4
 simp +decide only [go_sem,WR,WS]
 refine W_loop (α:=Nat) (fun i e w=>i≤d.labels.length∧e.size=81∧w4=w∧e.get 2= .pointer (some ⟨h.size,0,none⟩)∧e.get 3= .pointer (some ⟨h.size+1,0,none⟩)∧e.get 5= .slice la d.labels.length lc∧e.get 6= .int .i64 (i:Int)) (fun i=>d.labels.length - i) 0 ?_ ?_
 ·exact ⟨Nat.zero_le _,by simp +decide only [go_sem],rfl,by simp +decide only [go_sem],by simp +decide only [go_sem],by simp +decide only [go_sem],by simp +decide only [go_sem];rfl⟩
 rintro i e w ⟨hi,hsz,hw,g2,g3,g5,g6⟩ next
 subst hw
 by_cases hil:(i:Int) < ((d.labels.length:Nat):Int)
 ·obtain ⟨p,hp⟩:∃ p,d.labels[i]? =some p:=⟨_,List.getElem?_eq_getElem (by omega)⟩
  obtain ⟨q,o,cs,rfl,q2,q3,q4,q5⟩:=sl_label ls4 hp
  obtain ⟨q',o',cs',rfl,p2,p3,p4,p5⟩:=sl_label lt4 hp
  have c0:(0:Int)≤(i:Int):=by omega
  have i1:IntKind.i64.wrap ((i:Int)+1)=((i+1:Nat):Int):=by rw [wrap_i64 (by omega) (by omega)];omega
  simp +decide only [go_sem,WR,WS,hsz,g2,g3,g5,g6,hil,c0,Int.toNat_natCast,y4,q3,q4,q5,p3,p4,p5,i1]
  exact next (i+1) _ _ ⟨by omega,by simp +decide only [go_sem,hsz],rfl,by simp +decide only [go_sem,hsz,g2],by simp +decide only [go_sem,hsz,g3],by simp +decide only [go_sem,hsz,g5],by simp +decide only [go_sem,hsz]⟩ (by omega)
 by_cases hE:d.hd.nm=E
 ·have hE':d.hd.nm=⟨#[]⟩:=hE
  simp +decide only [go_sem,WR,WS,hsz,g2,g3,g5,g6,hil,z4,y4,hE']
 ·have hE':¬ d.hd.nm=⟨#[]⟩:=hE
  have dr1:=drows_run d w4 (V.ext K4) G (by omega)
  have dr2:=fun (w:Heap) (k:Ext w4 w)=>rdrows_run d w (U.ext (K4.trans k)) G (by omega)
  simp only [dl] at dr1 dr2
  simp +decide only [go_sem,WR,WS,hsz,g2,g3,g5,g6,hil,z4,y4,hE']
  refine W_call Kok K4.1 dr1 fun r w5 x5 hr=> ?_
  obtain ⟨fa,fc,rfl,s5⟩:=hr
  have y5:w5.get (h.size+1)=_:=(x5.2 _ (by have:=x1.1;have:=x2.1;have:=x3.1;have:=x4.1;omega)).trans y4
  simp +decide only [go_sem,WR,WS,hsz,g3,y5]
  refine W_call Kok (K4.trans x5).1 (dr2 w5 x5) fun r w6 x6 hr=> ?_
  obtain ⟨ga,gc,rfl,s6⟩:=hr
  simp +decide only [go_sem,WR,WS,hsz]
  refine W_call Kok ((K4.trans x5).trans x6).1 (texts_run (rowsT d) w6 (s5.ext x6) s6 (by rw [rows_len];omega)) fun r w7 x7 hr=> ?_
  obtain ⟨rfl, -⟩:=hr
  simp +decide only [go_sem,WR,WS,hsz]
end Go.Proofs.YtachkofbmodnnaaGreatDoor.M1
namespace Go.Proofs.YtachkofbmodnnaaGreatDoor.P8
open Go Go.Im Go.Im.Limbs Go.Im.Lexing Go.Im.Heads Go.Im.Editing Go.Im.Defn Go.Im.Arrays Go.Proofs Go.RowKit Hd H2 H3 H4 H5 D2 D3 D4 M0 M1 M8 M9 M10 H23 P3 P4 P5 P6 P7
set_option maxRecDepth 100000
theorem validr_run (n:Int) (h:Heap):Runs K 25 #[.int .i32 n] h fun r w=>h=w∧∃ b,r= .bool b:=by
 refine Runs.of Kok (Does.intro rfl (by decide +kernel) Tryz.func25 rfl ?_)
 by_cases c1:(0:Int)≤n<;>by_cases c2:n < 55296<;>by_cases c3:(57343:Int) < n<;>by_cases c4:n≤1114111<;>simp +decide only [go_sem,WR,WS,c1,c2,c3,c4]<;>exact ⟨_,rfl⟩
set_option maxHeartbeats 2000000 in
theorem chars_run (rows:List ByteArray) (p:PlT) (h:Heap) {a:Option Addr} {c:Nat} (s:Sl h 1 a rows.length c (sv rows)) (T:TabsAt h) {v:Value} (V:PV h v p) :
  Runs K 6 #[.slice a rows.length c,v] h fun r _=>r= .bool true:=by
 have V0:=V
 obtain ⟨pa,pc,pa1,pc1,pa2,pc2,rfl,s1,s2,s3⟩:=V0
 refine Runs.of Kok (Does.intro rfl (by decide +kernel) Tryz.func6 rfl ?_)
 have wake:=fun w:Heap=>law24_awake_runs w
 obtain ⟨w0,e0,x0,hs0,z0⟩:=lay1 h (.cells [.slice pa p.shape.length pc,.bool p.ch,.slice pa1 p.tx.length pc1,.slice pa2 p.nums.length pc2] 4)
 have zz:∀ {w:Heap},Ext w0 w→w.get h.size=_:=fun k=>(k.2 _ (by omega)).trans z0
 have lr:=light_run p w0 (V.ext x0) (.inr trivial)
 simp +decide only [go_sem,WR,WS,e0]
 refine W_call Kok x0.1 (short_run rows w0 (s.ext x0) (T.ext x0)) fun r w x hr=> ?_
 obtain ⟨hw,b1,rfl,hb⟩:=hr
 subst hw
 cases b1 with
 | false =>
   simp +decide only [go_sem,WR,WS]
   refine W_call Kok x0.1 (wake w0) fun r w x hr=> ?_
   subst hr
   simp +decide only [go_sem,WR,WS]
 | true =>
 obtain ⟨hl,hz2⟩:=hb rfl
 have hz:∀ y ∈ rows,y.size≤100000:=fun y hy=>Nat.le_trans (hz2 y hy) (by decide)
 simp +decide only [go_sem,WR,WS,z0]
 refine W_call Kok x0.1 lr fun r w1 x1 hr=> ?_
 obtain ⟨b2,rfl,hb2⟩:=hr
 have K1:=x0.trans x1
 cases b2 with
 | false =>
   simp +decide only [go_sem,WR,WS]
   refine W_call Kok K1.1 (wake w1) fun r w x hr=> ?_
   subst hr
   simp +decide only [go_sem,WR,WS]
 | true =>
 have L:=hb2 rfl
 have tl:=L.tl
 simp +decide only [go_sem,WR,WS]
 refine W_loop (α:=Nat) (fun i e w=>i≤p.tx.length∧e.size=106∧w1=w∧e.get 0= .slice a rows.length c∧e.get 3= .pointer (some ⟨h.size,0,none⟩)∧e.get 5= .int .i64 (i:Int)) (fun i=>p.tx.length - i) 0 ?_ ?_
 ·exact ⟨Nat.zero_le _,by simp +decide only [go_sem],rfl,by simp +decide only [go_sem],by simp +decide only [go_sem],by simp +decide only [go_sem];rfl⟩
 rintro i e w ⟨hi,hsz,hw,g0,g3,g5⟩ next
 subst hw
 have zw:=zz x1
 by_cases hil:(i:Int) < ((p.tx.length:Nat):Int)
 ·obtain ⟨d,hd⟩:∃ d,p.tx[i]? =some d:=⟨_,List.getElem?_eq_getElem (by omega)⟩
  obtain ⟨b,o,cs,rfl,p2,p3,p4⟩:=(s2.ext K1).one (rv_get hd)
  have c0:(0:Int)≤(i:Int):=by omega
  have i1:IntKind.i64.wrap ((i:Int)+1)=((i+1:Nat):Int):=by rw [wrap_i64 (by omega) (by omega)];omega
  simp +decide only [go_sem,WR,WS,hsz,g3,g5,zw,hil,c0,Int.toNat_natCast,p3,p4]
  refine W_call Kok K1.1 (validr_run d w1) fun r w x hr=> ?_
  obtain ⟨hw,b,rfl⟩:=hr
  subst hw
  cases b
  ·simp +decide only [go_sem,WR,WS,hsz]
   refine W_call Kok K1.1 (wake w1) fun r w x hr=> ?_
   subst hr
   simp +decide only [go_sem,WR,WS,hsz]
  ·simp +decide only [go_sem,WR,WS,hsz,g5,i1]
   exact next (i+1) _ _ ⟨by omega,by simp +decide only [go_sem,hsz],rfl,by simp +decide only [go_sem,hsz,g0],by simp +decide only [go_sem,hsz,g3],by simp +decide only [go_sem,hsz]⟩ (by omega)
 clear next
 have lo:=lawof_run p w1 (V.ext K1) L
 simp +decide only [go_sem,WR,WS,hsz,g0,g3,g5,zw,hil]
 refine W_call Kok K1.1 lo fun r w2 x2 hr=> ?_
 obtain ⟨n,hcn,hcc,hcf⟩:=L.cnt
 have few:=L.few
 have K2:=K1.trans x2
 simp +decide only [go_sem,WR,WS,hsz]
 refine W_call Kok K2.1 (dof2_run p.shape p.tx p.ch w2 hr few tl hcn (fun hh=>(hcc hh).1)) fun r w3 x3 hr=> ?_
 obtain ⟨u3,rfl,D3⟩:=hr
 have K3:=K2.trans x3
 have rdo:=fun (w:Heap) (k:Ext h w)=>rdof_run p w (V.ext k) L
 have Gf:=ofS_good p.shape p.ch p.tx
 have ff:=ofS_few p.shape p.ch p.tx
 generalize ofS p.shape p.ch p.tx=O at *
 obtain ⟨f,worst,g⟩:=O
 simp only at D3 rdo Gf ff
 have D3':=D3
 obtain ⟨q0,k0,q1,k1,q2,k2,rfl, -⟩:=D3'
 obtain ⟨w4,e4,x4,hs4,z4⟩:=lay1 w3 (.cells [.string ByteArray.empty,.string ByteArray.empty,.string ByteArray.empty,.string ByteArray.empty,.slice none 0 0,.slice none 0 0,.slice none 0 0] 7)
 obtain ⟨w5,e5,x5,hs5,z5,_⟩:=put1 x4 (Nat.le_refl _) (.cells (dl f.hd (.slice q0 f.hd.ls.length k0) (.slice q1 f.lines.length k1) (.slice q2 f.labels.length k2)) 7)
 have j3:h.size≤w3.size:=K3.1
 have K5:=K3.trans x5
 have k15:=x1.trans (x2.trans (x3.trans x5))
 simp only [dl] at e5 z5
 simp +decide only [go_sem,WR,WS,hsz,g3,dl,e4,z4,j3,e5,zz k15]
 refine W_call Kok K5.1 (rdo w5 K5) fun r w6 x6 hr=> ?_
 obtain ⟨u6,rfl,D6⟩:=hr
 have K6:=K5.trans x6
 have D6':=D6
 obtain ⟨m0,n0,m1,n1,m2,n2,rfl, -⟩:=D6'
 obtain ⟨w7,e7,x7,hs7,z7⟩:=lay1 w6 (.cells [.string ByteArray.empty,.string ByteArray.empty,.string ByteArray.empty,.string ByteArray.empty,.slice none 0 0,.slice none 0 0,.slice none 0 0] 7)
 obtain ⟨w8,e8,x8,hs8,z8,_⟩:=put1 x7 (Nat.le_refl _) (.cells (dl f.hd (.slice m0 f.hd.ls.length n0) (.slice m1 f.lines.length n1) (.slice m2 f.labels.length n2)) 7)
 have j6:h.size≤w6.size:=K6.1
 have K8:=K6.trans x8
 have z58:w8.get w3.size=_:=((x6.trans x8).2 _ (by omega)).trans z5
 have sm:=same24_run f w8 (D3.ext (x5.trans (x6.trans x8))) (D6.ext x8) Gf (by omega) (by omega)
 simp only [dl] at e8 z8 sm
 simp +decide only [go_sem,WR,WS,hsz,dl,e7,z7,j6,e8,z58,z8]
 refine W_call Kok K8.1 sm fun r w9 x9 hr=> ?_
 subst hr
 have K9:=K8.trans x9
 clear sm rdo D3 D6 e8 e5 e4 e7 z58 z8
 have G:=make_good rows
 have fw:=make_few rows
 have small:=make_small hz2
 have mk:=fun (w:Heap) (k:Ext h w)=>make_run rows w (s.ext k) (by omega) hz
 have rmk:=fun (w:Heap) (k:Ext h w)=>rmake_run rows w (s.ext k) (by omega) hz
 have neg:= @make_neg rows
 have back:= @make_back rows
 generalize makeS rows=M at *
 obtain ⟨d,i'⟩:=M
 simp only at G fw small mk rmk neg
 have hzR:∀ y ∈ rowsT d,y.size≤100000:=by
  intro y hy
  rcases List.mem_cons.1 hy with rfl | hy
  ·exact txt_size G
  ·exact Nat.le_trans (small y hy) (by decide)
 simp +decide only [go_sem,WR,WS,hsz,g0]
 refine W_call Kok K9.1 (mk w9 K9) fun r w10 x10 hr=> ?_
 obtain ⟨u10,rfl,D10⟩:=hr
 have K10:=K9.trans x10
 have D10':=D10
 obtain ⟨r0,t0,r1,t1,r2,t2,rfl, -⟩:=D10'
 obtain ⟨w11,e11,x11,hs11,z11⟩:=lay1 w10 (.cells [.string ByteArray.empty,.string ByteArray.empty,.string ByteArray.empty,.string ByteArray.empty,.slice none 0 0,.slice none 0 0,.slice none 0 0] 7)
 obtain ⟨w12,e12,x12,hs12,z12,_⟩:=put1 x11 (Nat.le_refl _) (.cells (dl d.hd (.slice r0 d.hd.ls.length t0) (.slice r1 d.lines.length t1) (.slice r2 d.labels.length t2)) 7)
 have j10:h.size≤w10.size:=K10.1
 have K12:=K10.trans x12
 by_cases hi0:0≤i'
 ·simp only [dl] at e12 z12
  simp +decide only [go_sem,WR,WS,hsz,dl,e11,z11,j10,e12,hi0]
  refine W_call Kok K12.1 (wake w12) fun r w x hr=> ?_
  subst hr
  simp +decide only [go_sem,WR,WS,hsz]
 have hi1:i'= -1:=neg (by omega)
 subst hi1
 obtain ⟨b512,_⟩:=back (d:=d) rfl
 simp only [dl] at e12 z12
 simp +decide only [go_sem,WR,WS,hsz,g0,dl,e11,z11,j10,e12,hi0]
 refine W_call Kok K12.1 (rmk w12 K12) fun r w13 x13 hr=> ?_
 obtain ⟨u13,rfl,D13⟩:=hr
 have K13:=K12.trans x13
 have D13':=D13
 obtain ⟨r0',t0',r1',t1',r2',t2',rfl, -⟩:=D13'
 obtain ⟨w14,e14,x14,hs14,z14⟩:=lay1 w13 (.cells [.string ByteArray.empty,.string ByteArray.empty,.string ByteArray.empty,.string ByteArray.empty,.slice none 0 0,.slice none 0 0,.slice none 0 0] 7)
 obtain ⟨w15,e15,x15,hs15,z15,_⟩:=put1 x14 (Nat.le_refl _) (.cells (dl d.hd (.slice r0' d.hd.ls.length t0') (.slice r1' d.lines.length t1') (.slice r2' d.labels.length t2')) 7)
 have j13:h.size≤w13.size:=K13.1
 have K15:=K13.trans x15
 have k1215:=x13.trans x15
 have z1215:w15.get w10.size=_:=(k1215.2 _ (by omega)).trans z12
 have dc:=dchars_run d w15 (D10.ext (x12.trans k1215)) G (by omega) hzR b512
 have rdc:=fun (w:Heap) (k:Ext w15 w)=>rdchars_run d w (D13.ext (x15.trans k)) G (by omega) hzR b512
 have hW:wideT (rowsT d)≤512:=wideT_le b512
 have hct:(charsT (wideT (rowsT d)) (rowsT d)).length≤1000000:=by
  rw [charsT_length fun y hy=>wideT_ge hy]
  exact Nat.le_trans (Nat.mul_le_mul (show (rowsT d).length≤301 by rw [rows_len];omega) hW) (by decide)
 simp only [dl] at e15 z15 dc rdc
 generalize wideT (rowsT d)=W at *
 generalize rowsT d=R at *
 simp +decide only [go_sem,WR,WS,hsz,dl,e14,z14,j13,e15,z1215]
 refine W_call Kok K15.1 dc fun r w16 x16 hr=> ?_
 obtain ⟨u16,rfl,A1,A0⟩:=hr
 have K16:=K15.trans x16
 obtain ⟨w17,e17,x17,hs17,z17⟩:=lay1 w16 (.cells [.slice none 0 0,.bool false,.slice none 0 0,.slice none 0 0,.bool false] 5)
 have j16:h.size≤w16.size:=K16.1
 cases ho:ok2 R.length W with
 | false =>
   have:=A0 ho
   subst this
   obtain ⟨w18,e18,x18,hs18,z18,_⟩:=put1 x17 (Nat.le_refl _) (.cells [.slice none 0 0,.bool false,.slice none 0 0,.slice none 0 0,.bool false] 5)
   have K18:=K16.trans x18
   have z1518:w18.get w13.size=_:=((x16.trans x18).2 _ (by omega)).trans z15
   simp +decide only [go_sem,WR,WS,hsz,azero,e17,z17,j16,e18,z1518]
   refine W_call Kok K18.1 (rdc w18 (x16.trans x18)) fun r w19 x19 hr=> ?_
   obtain ⟨u19,rfl,P1,P0⟩:=hr
   have PP:=P0 ho
   have PP':=PP
   obtain ⟨y0,l0,y1,l1,y2,l2,rfl, -⟩:=PP'
   have K19:=K18.trans x19
   obtain ⟨w20,e20,x20,hs20,z20⟩:=lay1 w19 (.cells [.slice none 0 0,.bool false,.slice none 0 0,.slice none 0 0] 4)
   obtain ⟨w21,e21,x21,hs21,z21,_⟩:=put1 x20 (Nat.le_refl _) (.cells [.slice y0 1 l0,.bool false,.slice y1 0 l1,.slice y2 0 l2] 4)
   have j19:h.size≤w19.size:=K19.1
   have K21:=K19.trans x21
   have z1821:w21.get w16.size=_:=((x19.trans x21).2 _ (by omega)).trans z18
   have pr:=plain0_run w21
   simp only [azero] at pr
   have sm:=fun (w:Heap) (k:Ext w21 w) {v:Value} (V:PV w v ⟨[0],false,[],[]⟩)=>same06_run [0] [] false w V (PP.ext (x21.trans k)) (by simp) (by simp)
   simp only [List.length_cons,List.length_nil,Nat.zero_add] at sm
   simp +decide only [go_sem,WR,WS,hsz,ho,List.length_cons,List.length_nil,Nat.zero_add,e20,z20,j19,e21,z1821]
   refine W_call Kok K21.1 pr fun r w22 x22 hr=> ?_
   have z2122:w22.get w19.size=_:=(x22.2 _ (by omega)).trans z21
   have smr:=sm w22 x22 hr
   simp +decide only [go_sem,WR,WS,hsz,z2122]
   refine W_call Kok (K21.trans x22).1 smr fun r w23 x23 hr=> ?_
   subst hr
   simp +decide only [go_sem,WR,WS,hsz]
   refine W_call Kok (K21.trans (x22.trans x23)).1 (wake w23) fun r w x hr=> ?_
   subst hr
   simp +decide only [go_sem,WR,WS,hsz]
 | true =>
   have A:=A1 ho
   have A':=A
   obtain ⟨b0,d0,b1,d1,rfl, -⟩:=A'
   obtain ⟨w18,e18,x18,hs18,z18,_⟩:=put1 x17 (Nat.le_refl _) (.cells [.slice b0 2 d0,.bool true,.slice b1 (charsT W R).length d1,.slice none 0 0,.bool true] 5)
   have K18:=K16.trans x18
   have z1518:w18.get w13.size=_:=((x16.trans x18).2 _ (by omega)).trans z15
   simp +decide only [go_sem,WR,WS,hsz,e17,z17,j16,e18,z1518]
   refine W_call Kok K18.1 (rdc w18 (x16.trans x18)) fun r w19 x19 hr=> ?_
   obtain ⟨u19,rfl,P1,P0⟩:=hr
   have PP:=P1 ho
   have PP':=PP
   obtain ⟨y0,l0,y1,l1,y2,l2,rfl, -⟩:=PP'
   have K19:=K18.trans x19
   obtain ⟨w20,e20,x20,hs20,z20⟩:=lay1 w19 (.cells [.slice none 0 0,.bool false,.slice none 0 0,.slice none 0 0] 4)
   obtain ⟨w21,e21,x21,hs21,z21,_⟩:=put1 x20 (Nat.le_refl _) (.cells [.slice y0 2 l0,.bool true,.slice y1 (charsT W R).length l1,.slice y2 0 l2] 4)
   have j19:h.size≤w19.size:=K19.1
   have K21:=K19.trans x21
   have z1821:w21.get w16.size=_:=((x19.trans x21).2 _ (by omega)).trans z18
   have pr:=plain_run [(R.length:Int),(W:Int)] (charsT W R) w21 (A.ext (x18.trans (x19.trans x21))) (by simp) hct
   simp only [List.length_cons,List.length_nil,Nat.zero_add,Nat.reduceAdd] at pr
   have sm:=fun (w:Heap) (k:Ext w21 w) {v:Value} (V:PV w v ⟨[(R.length:Int),(W:Int)],true,charsT W R,[]⟩)=>same06_run [(R.length:Int),(W:Int)] (charsT W R) true w V (PP.ext (x21.trans k)) (by simp) hct
   simp only [List.length_cons,List.length_nil,Nat.zero_add,Nat.reduceAdd] at sm
   simp +decide only [go_sem,WR,WS,hsz,ho,List.length_cons,List.length_nil,Nat.zero_add,e20,z20,j19,e21,z1821]
   refine W_call Kok K21.1 pr fun r w22 x22 hr=> ?_
   have z2122:w22.get w19.size=_:=(x22.2 _ (by omega)).trans z21
   have smr:=sm w22 x22 hr
   simp +decide only [go_sem,WR,WS,hsz,z2122]
   refine W_call Kok (K21.trans x22).1 smr fun r w23 x23 hr=> ?_
   subst hr
   simp +decide only [go_sem,WR,WS,hsz]
   refine W_call Kok (K21.trans (x22.trans x23)).1 (wake w23) fun r w x hr=> ?_
   subst hr
   simp +decide only [go_sem,WR,WS,hsz]
end Go.Proofs.YtachkofbmodnnaaGreatDoor.P8
namespace Go.Im
open Go.RowKit Go.Proofs
theorem tab_view {W:World} {g:Nat} {cs:List Value} (φ:Places) (h0:0 < cs.length) (hc:∀ i x,cs[i]? =some x→Im.atomic x=true∧W.cell? ⟨g,i,none⟩=some x):View.of φ W ⟨g,0,cs.length,1,cs⟩:=by
 have h1:=(hc 0 _ (List.getElem?_eq_getElem h0)).2
 cases ho:W.heap[g]? with
 | none=>simp [World.cell?,ho] at h1
 | some o =>
   cases o with
   | cells c e fr =>
     have get:∀ i x,cs[i]? =some x→c[i]? =some x:=fun i x hx=>by
      have:=(hc i x hx).2
      simpa [World.cell?,ho] using this
     refine ⟨by simp,c,e,fr,ho,?_,fun i x hx=>⟨?_,x,?_,RV.atomic _ (hc i x hx).1⟩⟩
     ·have hl:=get (cs.length - 1) _ (List.getElem?_eq_getElem (by omega))
      have:=(Array.getElem?_eq_some_iff.1 hl).1
      simp only
      omega
     ·have:=(hc i x hx).1
      cases x<;>simp_all [Im.atomic,cellOK]
     ·simp only [Nat.zero_add]
      exact get i x hx
   | _=>simp [World.cell?,ho] at h1
def tabViews (g3 g4:Nat):List View:=[⟨g4,0,accCs.length,1,accCs⟩,⟨g3,0,firstCs.length,1,firstCs⟩]
theorem tabs_laid {W:World} {g3 g4:Nat} (T:Lib.Utf8Tabs g3 g4 W):LaidOK W (tabViews g3 g4):=by
 have v3:∀ φ,View.of φ W ⟨g3,0,firstCs.length,1,firstCs⟩:=fun φ=>tab_view φ (by simp [firstCs]) fun i x hx=>by
  have hi:i < 256:=by have:=(List.getElem?_eq_some_iff.1 hx).1;simpa [firstCs] using this
  have:x=Value.int .u8 (Lib.firstT i:Int):=by simpa [firstCs,hi] using hx.symm
  subst this
  exact ⟨rfl,T.1 i hi⟩
 have v4:∀ φ,View.of φ W ⟨g4,0,accCs.length,1,accCs⟩:=fun φ=>tab_view φ (by rw [show accCs.length=32 from rfl];decide) fun i x hx=>by
  have hi:i < 32:=(List.getElem?_eq_some_iff.1 hx).1
  obtain ⟨j,hj | hj⟩:∃ j,i=2*j∨i=2*j+1:=⟨i / 2,by omega⟩
  ·subst hj
   have h:=(acc_at j (by omega)).1
   rw [hx] at h
   cases h
   exact ⟨rfl,(T.2 j (by omega)).1⟩
  ·subst hj
   have h:=(acc_at j (by omega)).2
   rw [hx] at h
   cases h
   exact ⟨rfl,(T.2 j (by omega)).2⟩
 intro i v hv
 rw [tabViews,vAt_cons] at hv
 split at hv
 ·cases hv
  exact v4 _
 ·rw [vAt_cons] at hv
  split at hv
  ·cases hv
   exact v3 _
  ·simp [vAt] at hv
theorem tabs_tied (g3 g4:Nat):(tabT g3 g4).holds (vPlaces (tabViews g3 g4)):=⟨⟨_,rfl,rfl,rfl⟩,⟨_,rfl,rfl,rfl⟩⟩
theorem tabs_at (g3 g4:Nat):TabsAt (laid (tabViews g3 g4)):=⟨laid_get (tabViews g3 g4) 0 ⟨g3,0,firstCs.length,1,firstCs⟩ rfl,laid_get (tabViews g3 g4) 1 ⟨g4,0,accCs.length,1,accCs⟩ rfl,by rw [laid_size];exact Nat.le_refl _⟩
end Go.Im
