/- Proved here: parts of the way to BEditBack (BD3 BD4 BE4); no condition beyond those that each theorem names. -/
import Derived.Test.YtachkofbmodnnaaGreatG20
import Derived.Test.YtachkofbmodnnaaGreatG17
set_option linter.unusedSimpArgs false
set_option linter.unusedVariables false
namespace Go.Proofs.YtachkofbmodnnaaGreat.D3
open Go Go.Im Go.Im.Limbs Go.Im.Lexing Go.Im.Heads Go.Im.Editing Go.Im.Defn Go.Proofs Go.RowKit Hd N19 N23 R9 H2 H3 H5 H6 H7 H8 L1 E2 D2
set_option maxRecDepth 100000
theorem ZqR (tk:List ByteArray) (s:ByteArray) (h:Heap) {a:Option Addr} {c:Nat} (sl:Sl h 1 a tk.length c (sv tk)) (hm:tk.length≤1000000):Runs K 70 #[.slice a tk.length c,.string s] h fun r w=>h=w∧r= .bool (decide (s ∈ tk)):=by
 refine Runs.of Kok (Does.intro rfl Ye Tryz.func70 rfl ?_)
 simp +decide only [go_sem,WR,WS]
 refine Zah (α:=Nat) (fun i e w=>i≤tk.length∧e.size=18∧h=w∧e.get 0= .slice a tk.length c∧e.get 1= .string s∧e.get 5= .int .i64 (i:Int)∧s ∉ tk.take i) (fun i=>tk.length - i) 0 ?_ ?_
 ·exact ⟨Nat.zero_le _,Yc,rfl,Yc,Yc,by simp +decide only [go_sem];rfl,by simp⟩
 rintro i e w ⟨hi,hsz,hw,e0,e1,e5,hni⟩ next
 subst hw
 by_cases hil:(i:Int) < ((tk.length:Nat):Int)
 ·obtain ⟨b,o,cs,rfl,q2,q3,q4⟩:=ZaN sl (i:=i) Ya
  have hy:tk[i]? =some tk[i]:=List.getElem?_eq_getElem Ya
  have c0:(0:Int)≤(i:Int):=Ya
  have i1:IntKind.i64.wrap ((i:Int)+1)=((i+1:Nat):Int):=Yd
  by_cases hs:tk[i]=s
  ·simp +decide only [go_sem,WR,WS,hsz,e0,e1,e5,hil,c0,Int.toNat_natCast,q3,q4,hs]
   have:s ∈ tk:=by rw [← hs];exact List.getElem_mem _
   simp [this]
  ·simp +decide only [go_sem,WR,WS,hsz,e0,e1,e5,hil,c0,Int.toNat_natCast,q3,q4,hs,i1]
   exact next (i+1) _ _ ⟨by omega,Yb,rfl,Yf,Yk,Yb,Zj9 hy hni (fun hh=>hs hh.symm)⟩ Ya
 ·simp +decide only [go_sem,WR,WS,hsz,e0,e1,e5,hil]
  have:¬ s ∈ tk:=by rwa [List.take_of_length_le Ya] at hni
  simp [this]
set_option maxHeartbeats 4000000 in
theorem Zh2 (rows:List ByteArray) (h:Heap) {a:Option Addr} {c:Nat} (s:Sl h 1 a rows.length c (sv rows)) (hn:rows.length≤9223372036854775807) (hz:∀ r ∈ rows,r.size≤9223372036854775807) :
  Runs K 40 #[.slice a rows.length c] h fun r w=>∃ v,r= .tuple #[v,.int .i64 (ZaM rows).2]∧DV w v (ZaM rows).1:=by
 refine Runs.of Kok (Does.intro rfl Ye Tryz.func40 rfl ?_)
 obtain ⟨w0,e0,x0,hs0,z0⟩:=lay1 h (.cells [.string ByteArray.empty,.string ByteArray.empty,.string ByteArray.empty,.string ByteArray.empty,.slice none 0 0,.slice none 0 0,.slice none 0 0] 7)
 have j0:h.size≤h.size:=Nat.le_refl _
 have fin0:∀ (w:Heap) (C:List Value),Ext h w→∃ w',w.set h.size (.cells C 7)=w'∧w'.get h.size= .cells C 7∧w'.size=w.size∧∀ b,b≠h.size→w'.get b=w.get b:=fun w C xw=>by
  obtain ⟨w1,e1,x1,hs1,g1,k1⟩:=put1 xw j0 (.cells C 7)
  exact ⟨w1,e1,g1,hs1,k1⟩
 have zd:∀ w,DV w (.agg #[.string ByteArray.empty,.string ByteArray.empty,.string ByteArray.empty,.string ByteArray.empty,.slice none 0 0,.slice none 0 0,.slice none 0 0]) dZ:=fun w=>DV.zero w
 match rows,s,hn,hz with
 | [],s,hn,hz =>
   obtain ⟨w1,e1,g1,hs1,k1⟩:=fin0 w0 [.string ByteArray.empty,.string ByteArray.empty,.string ByteArray.empty,.string ByteArray.empty,.slice none 0 0,.slice none 0 0,.slice none 0 0] x0
   simp +decide only [go_sem,WR,WS,e0,List.length_nil,Int.natCast_zero,z0,j0,e1,g1]
   exact ⟨_,rfl,zd _⟩
 | r0::rs,s,hn,hz =>
 have hl0:(r0::rs).length=rs.length+1:=rfl
 have n0:¬ (((r0::rs).length:Nat):Int)=0:=by rw [hl0];omega
 have n1:(0:Int) < (((r0::rs).length:Nat):Int):=by rw [hl0];omega
 obtain ⟨b,o,cs,rfl,q2,q3,q4⟩:=ZaN s (i:=0) Ya
 obtain ⟨L,rfl⟩:=Zg5 r0
 rw [Nat.add_zero] at q4
 have q4':cs[o]? =some (.string (text L)):=q4
 have q3':(w0.get b).read= .cells cs 1:=by rw [x0.2 b q2];exact q3
 have hr0:=hz (text L) Yp
 obtain ⟨l,hl⟩:∃ l,l=Zai (text L):=⟨_,rfl⟩
 have hll:l.length≤9223372036854775807:=by rw [hl];exact Nat.le_trans (Zc7 _) hr0
 obtain ⟨w1,e1,x1,hs1,z1⟩:=lay1 w0 (.cells (rv l) 1)
 have x01:=x0.trans x1
 have t1:Ln w1 (.slice (some ⟨w0.size,0,none⟩) l.length big) l:=Ln.new Ya z1
 have ic:=Zfp (l:=L) (h:=w0)
 rw [← hl,e1] at ic
 have hcs':∀ k (hk:k < rs.length),cs[o+(k+1)]? =some (.string rs[k]):=fun k hk=>by
  obtain ⟨b2,o2,cs2,hq,p2,p3,p4⟩:=ZaN s (i:=k+1) (by rw [hl0];omega)
  cases hq
  rw [q3] at p3
  cases p3
  exact p4
 clear q4
 generalize hN:(text L::rs).length=N at *
 simp +decide only [go_sem,WR,WS,e0,n0,n1,show Int.toNat 0=0 from rfl,q3',q4',ic]
 refine Zaa Kok x01.1 (ZkL l w1 t1.tx Ya) fun r w2 x2 hr=> ?_
 obtain ⟨pa,pc,rfl,s2⟩:=hr
 have x02:=x01.trans x2
 have hms:ZaM (text L::rs)=if (hdp l).2=true then Zau (hdp l).1 rs 1 [] [] (hdp l).1.all else (dZ,0):=by rw [ZaM,← hl]
 have Gx:=Zel l
 generalize hX:hdp l=X at s2 hms Gx
 obtain ⟨x,ok⟩:=X
 simp only at s2 hms Gx
 obtain ⟨w3,e3,x3,hs3,z3⟩:=lay1 w2 (.cells [.string ByteArray.empty,.string ByteArray.empty,.string ByteArray.empty,.string ByteArray.empty,.slice none 0 0] 5)
 obtain ⟨w4,e4,x4,hs4,z4,k4⟩:=put1 x3 (Nat.le_refl _) (.cells (H2.hl x (.slice pa x.ls.length pc)) 5)
 have x04:=x02.trans x4
 have j2:h.size≤w2.size:=x02.1
 have g0:w4.get h.size=_:=((x1.trans (x2.trans x4)).2 _ Ya).trans z0
 simp only [H2.hl] at e4 z4
 cases ok with
 | false =>
   obtain ⟨w5,e5,g5,hs5,k5⟩:=fin0 w4 [.string ByteArray.empty,.string ByteArray.empty,.string ByteArray.empty,.string ByteArray.empty,.slice none 0 0,.slice none 0 0,.slice none 0 0] x04
   simp +decide only [go_sem,WR,WS,H2.hl,e3,z3,j2,e4,g0,j0,e5,g5]
   rw [hms]
   exact ⟨_,rfl,zd _⟩
 | true =>
   obtain ⟨hv,hhv⟩:∃ hv,hv=Value.slice pa x.ls.length pc:=⟨_,rfl⟩
   have hok:Zal hv=true:=by rw [hhv];rfl
   have few:=Gx.few
   have s4:=s2.ext x4
   obtain ⟨w5,e5,x5,hs5,z5⟩:=lay1 w4 (.cells [.string ByteArray.empty,.string ByteArray.empty,.string ByteArray.empty,.string ByteArray.empty,.slice none 0 0,.slice none 0 0,.slice none 0 0] 7)
   obtain ⟨w6,e6,x6,hs6,z6,k6⟩:=put1 x5 (Nat.le_refl _) (.cells (dl x hv (.slice none 0 0) (.slice none 0 0)) 7)
   have x06:=x04.trans x6
   have j4:h.size≤w4.size:=x04.1
   have nmr:=ZgA x w6 (s4.ext x6) Ya
   simp only [H2.hl,← hhv] at e4 z4 nmr
   simp only [dl] at e6
   have z46:w6.get w2.size=_:=(x6.2 _ Ya).trans z4
   simp +decide only [go_sem,WR,WS,H2.hl,← hhv,hok,e3,z3,j2,e4,z4,e5,z5,j4,e6,z46]
   refine Zaa Kok x06.1 nmr fun r w7 x7 hr=> ?_
   have z47:w7.get w2.size=_:=(x7.2 _ Ya).trans z46
   obtain ⟨w8,e8,x8,hs8,z8⟩:=lay1 w7 (.cells [.string x.nm] 1)
   have x48:=x6.trans (x7.trans x8)
   have hnl:=Zd4 x
   obtain ⟨w9,e9,o9,hs9,x9,k9⟩:=Zc2 (low:=h.size) (bytes:=16) (k:=1) (new:=[.string x.nm]) j4 x48 ((hr.ext x8).keep x6.1 fun b hb _=>⟨rfl,hb⟩) Ya Ya rfl Ya Ya
   obtain ⟨ra,rc,rfl⟩:=hr.shape
   have hall:x.all.length=x.names.length+1:=by simp [HdT.all]
   have hrq:vblk (.slice ra x.names.length rc)≠some w4.size:=by
    intro hh
    have:=(Zh6 hr hh).1
    omega
   have S9:DS w4 w4.size w9 x hv (.slice none 0 0) (.slice none 0 0) (.slice (some ⟨w8.size,0,none⟩) (x.names.length+1) big) [] [] x.all:=by
    have m7:=x7.1
    have m8:=x8.1
    refine ⟨x9,Nat.le_refl _,by omega,?_,Own.nil _ _ _,Own.nil _ _ _,?_,fun b hb=>by simp [vblk] at hb⟩
    ·rw [k9 _ Ya hrq,(x7.trans x8).2 _ Ya,z6]
    ·rw [hall]
     have:sv x.all=sv x.names++[.string x.nm]:=by rw [HdT.all,Zbb];rfl
     rw [this]
     exact o9
   have hrs:N - 1=rs.length:=by rw [← hN];rfl
   have hsb:h.size < w4.size:=Ya
   simp +decide only [go_sem,WR,WS,z47,e8,z8,e9]
   refine Zah (α:=Nat × Value × Value × Value × List ByteArray × List (ByteArray × Nat) × List ByteArray) (fun k e W=>k.1≤rs.length∧e.size=94∧DS w4 w4.size W x hv k.2.1 k.2.2.1 k.2.2.2.1 k.2.2.2.2.1 k.2.2.2.2.2.1 k.2.2.2.2.2.2∧e.get 2= .pointer (some ⟨h.size,0,none⟩)∧e.get 6= .pointer (some ⟨w4.size,0,none⟩)∧e.get 7=k.2.2.2.1 ∧
    e.get 0= .slice (some ⟨b,o,none⟩) N c∧e.get 8= .int .i64 ((k.1+1:Nat):Int)∧Zau x rs 1 [] [] x.all=Zau x (rs.drop k.1) (k.1+1) k.2.2.2.2.1 k.2.2.2.2.2.1 k.2.2.2.2.2.2∧k.2.2.2.2.1.length≤k.1∧k.2.2.2.2.2.1.length≤k.1∧k.2.2.2.2.2.2.length≤1000+k.1)
    (fun k=>rs.length - k.1) (0,.slice none 0 0,.slice none 0 0,.slice (some ⟨w8.size,0,none⟩) (x.names.length+1) big,[],[],x.all) ?_ ?_
   ·exact ⟨Nat.zero_le _,Yc,S9,Yc,Yc,Yc,Yc,by simp +decide only [go_sem];rfl,by simp,by simp,by simp,by simp only [hall];omega⟩
   clear e9 o9 x9 k9 S9 e8 z8 x8 hs8 hs9
   rintro ⟨k,lv,bv,tv,ls,lb,tk⟩ e W ⟨hk,hsz,S,g2,g6,g7,ga,g8,hlin,hl1,hl2,hl3⟩ next
   simp only at hk S g7 g8 hlin hl1 hl2 hl3
   have xW:=x04.trans S.ext
   have gz:W.get h.size=_:=(S.ext.2 _ hsb).trans g0
   have hrn:rs.length≤9223372036854775806:=Ya
   by_cases hkl:((k+1:Nat):Int) < ((N:Nat):Int)
   case neg =>
    have hke:rs.drop k=[]:=List.drop_of_length_le Ya
    rw [hke,Zau] at hlin
    have V:DV W (.agg (dl x hv lv bv).toArray) ⟨x,ls,lb⟩:=by
     have S':=S
     rw [hhv] at S' ⊢
     exact S'.value s4
    have g:=S.g
    obtain ⟨w',ew,gw,_⟩:=fin0 W (dl x hv lv bv) xW
    have V':=DV.put V gz ew
    simp only [dl] at g ew gw
    have hol:Zal lv=true:=by obtain ⟨a1,c1,hh⟩:=S.ol.shape;rw [hh];rfl
    have hob:Zal bv=true:=by obtain ⟨a1,c1,hh⟩:=S.ob.shape;rw [hh];rfl
    simp +decide only [go_sem,WR,WS,hsz,g2,g6,g7,ga,g8,hkl,g,gz,j0,hok,hol,hob,ew,gw]
    rw [hms,if_pos rfl,hlin]
    exact ⟨_,rfl,V'⟩
   have hkn:k < rs.length:=Ya
   obtain ⟨r,hr⟩:∃ r,r=rs[k]:=⟨_,rfl⟩
   have q4':cs[o+(k+1)]? =some (.string r):=by rw [hr];exact hcs' k hkn
   have q3':(W.get b).read= .cells cs 1:=by rw [xW.2 b q2];exact q3
   have hdr:rs.drop k=r::rs.drop (k+1):=by rw [hr];exact List.drop_eq_getElem_cons Ya
   have hrz:=hz r (by rw [hr];simp)
   rw [hdr] at hlin
   obtain ⟨L',rfl⟩:=Zg5 r
   obtain ⟨l',hl'⟩:∃ l',l'=Zai (text L'):=⟨_,rfl⟩
   have hll':l'.length≤9223372036854775807:=by rw [hl'];exact Nat.le_trans (Zc7 _) hrz
   obtain ⟨u1,f1,y1,hs1',z1'⟩:=lay1 W (.cells (rv l') 1)
   have t1':Ln u1 (.slice (some ⟨W.size,0,none⟩) l'.length big) l':=Ln.new Ya z1'
   have ic':=Zfp (l:=L') (h:=W)
   rw [← hl',f1] at ic'
   have c0:(0:Int)≤((k+1:Nat):Int):=Ya
   have k1:IntKind.i64.wrap (((k+1:Nat):Int)+1)=((k+1+1:Nat):Int):=Yd
   have S1:=S.more y1
   simp +decide only [go_sem,WR,WS,hsz,g2,g6,g7,ga,g8,hkl,c0,Int.toNat_natCast,q3',q4',ic']
   refine Zaa Kok (x04.trans S1.ext).1 (ZlW l' u1 t1' Ya) fun r u2 y2 hr2=> ?_
   obtain ⟨hw,tm⟩:=hr2
   have hw:=hw.symm
   subst hw
   obtain ⟨m,hm⟩:∃ m,m=trimS l':=⟨_,rfl⟩
   have hmm:trimS (Zai (text L'))=m:=by rw [hm,hl']
   rw [← hm] at tm
   have hml:m.length≤9223372036854775807:=by rw [hm];exact Nat.le_trans (ZcD l') hll'
   obtain ⟨ma,mc,rfl⟩:=tm.open
   simp +decide only [go_sem,WR,WS,hsz]
   refine Zaa Kok (x04.trans S1.ext).1 (Zg8 u1 tm.tx) fun r u3 y3 hr3=> ?_
   have S3:=S1.more y3
   have gz3:u3.get h.size=_:=(S3.ext.2 _ hsb).trans g0
   have xz:Ext h u3:=x04.trans S3.ext
   obtain ⟨w',ew,gw,_⟩:=fin0 u3 [.string ByteArray.empty,.string ByteArray.empty,.string ByteArray.empty,.string ByteArray.empty,.slice none 0 0,.slice none 0 0,.slice none 0 0] xz
   rcases hr3 with ⟨hlex,rfl⟩ | ⟨xs,xa,xc,hlex,hA,hxl,rfl,sx⟩
   ·rw [ZcV (.inl (by rw [hmm,hlex];rfl))] at hlin
    simp +decide only [go_sem,WR,WS,hsz,g2,g6,g7,ga,g8,gz3,j0,ew,gw,k1]
    rw [hms,if_pos rfl,hlin]
    exact ⟨_,rfl,zd _⟩
   by_cases h200:(200:Int) < ((k+1:Nat):Int)
   ·rw [ZcV (.inr Ya)] at hlin
    simp +decide only [go_sem,WR,WS,hsz,g2,g6,g7,ga,g8,h200,gz3,j0,ew,gw,k1]
    rw [hms,if_pos rfl,hlin]
    exact ⟨_,rfl,zd _⟩
   have hok:¬ ((lex (trimS (Zai (text L')))).isNone=true∨200 < k+1):=by
    rw [hmm,hlex]
    simp
    omega
   simp +decide only [go_sem,WR,WS,hsz,g8,h200]
   refine Zaa Kok xz.1 (ZkM m u3 ((tm.ext y3).tx) (ZeL hlex)) fun r u4 y4 hr4=> ?_
   obtain ⟨uu,rfl,_⟩:=hr4
   have S4:=S3.more y4
   have tm4:=tm.ext (y3.trans y4)
   obtain ⟨lab,hlab⟩:∃ lab,lab=(ZaO m).1:=⟨_,rfl⟩
   rw [← hlab]
   have xz4:Ext h u4:=x04.trans S4.ext
   by_cases hE:lab=E
   ·have hE':lab=⟨#[]⟩:=hE
    rw [Zde hok (by rw [hmm,← hlab];exact hE),hmm] at hlin
    have is4:=tm4.Zak
    obtain ⟨v1,v2,v3,a1,b1,a2,b2,a3,S5⟩:=S4.line (low:=h.size) j4 (runesBytes m) Ya
    have g4:=S4.g
    simp only [dl] at g4 b2 a3
    simp +decide only [go_sem,WR,WS,hsz,g2,g6,g7,ga,g8,hE',g4,is4,Zb0,a1,b1,a2,b2,a3,j4,k1]
    exact next (k+1,.slice (some ⟨v1.size,0,none⟩) (ls.length+1) big,bv,tv,ls++[runesBytes m],lb,tk) _ _ ⟨by simp only;omega,Yb,S5,Yt,Yv,Y5,by simp +decide only [go_sem,hsz,ga],Yb,hlin,by simp;omega,by simp only;omega,by simp only;omega⟩ Yj
   have hE':¬ lab=⟨#[]⟩:=hE
   obtain ⟨ta,tc,rfl⟩:=S4.ot.shape
   simp +decide only [go_sem,WR,WS,hsz,g2,g6,g7,hE']
   refine Zaa Kok xz4.1 (ZqR tk lab u4 S4.ot.sl Ya) fun r u5 y5 hr5=> ?_
   obtain ⟨hw,rfl⟩:=hr5
   subst hw
   by_cases hmem:lab ∈ tk
   ·rw [ZdD hok (by rw [hmm,← hlab];exact hE) (by rw [hmm,← hlab];exact hmem)] at hlin
    have gz4:u4.get h.size=_:=(S4.ext.2 _ hsb).trans g0
    obtain ⟨w',ew,gw,_⟩:=fin0 u4 [.string ByteArray.empty,.string ByteArray.empty,.string ByteArray.empty,.string ByteArray.empty,.slice none 0 0,.slice none 0 0,.slice none 0 0] xz4
    simp +decide only [go_sem,WR,WS,hsz,g2,g6,g7,ga,g8,hmem,gz4,j0,ew,gw,k1]
    rw [hms,if_pos rfl,hlin]
    exact ⟨_,rfl,zd _⟩
   rw [Zdf hok (by rw [hmm,← hlab];exact hE) (by rw [hmm,← hlab];exact hmem),hmm,← hlab] at hlin
   obtain ⟨v1,v2,a1,b1,a2,S5,r5⟩:=S4.take (low:=h.size) j4 lab Ya
   obtain ⟨v3,v4,v5,a3,b3,a4,b4,a5,S6,r6⟩:=S5.label (low:=h.size) j4 lab (k+1) Ya
   have is6:=((RK.of (y3.trans y4)).trans (r5.trans r6)).Zak tm
   obtain ⟨v6,v7,v8,a6,b6,a7,b7,a8,S7⟩:=S6.line (low:=h.size) j4 (runesBytes m) Ya
   have g5:=S5.g
   have g6':=S6.g
   simp only [dl] at g5 g6' b4 a5 b7 a8
   simp +decide only [go_sem,WR,WS,hsz,g2,g6,g7,ga,g8,hmem,a1,b1,a2,g5,a3,b3,a4,b4,a5,g6',is6,Zb0,a6,b6,a7,b7,a8,j4,k1]
   exact next (k+1,.slice (some ⟨v6.size,0,none⟩) (ls.length+1) big,.slice (some ⟨v3.size,0,none⟩) (lb.length+1) big,.slice (some ⟨v1.size,0,none⟩) (tk.length+1) big,ls++[runesBytes m],lb++[(lab,k+1)],tk++[lab]) _ _ ⟨by simp only;omega,Yb,S7,Yt,Yv,Yb,by simp +decide only [go_sem,hsz,ga],Yb,hlin,by simp;omega,by simp;omega,by simp;omega⟩ Yj
end Go.Proofs.YtachkofbmodnnaaGreat.D3
namespace Go.Im.Defn
open Go Go.Im Go.Im.Lexing Go.Im.Heads Go.Im.Editing
theorem Zhl:∀ {rs:List ByteArray} {x:HdT} {i:Nat} {ls:List ByteArray} {lb:List (ByteArray × Nat)} {tk:List ByteArray},(Zau x rs i ls lb tk).1.hd=x∨(Zau x rs i ls lb tk).1=dZ
 | [],x,i,ls,lb,tk=> .inl rfl
 | r::rs,x,i,ls,lb,tk=>by
   rw [Zau]
   split
   ·exact .inr rfl
   ·split
    ·exact Zhl
    ·split
     ·exact .inr rfl
     ·exact Zhl
theorem Zea (rows:List ByteArray):Heads.Good (ZaM rows).1.hd:=by
 match rows with
 | []=>exact ZiB
 | r::rs =>
   rw [ZaM]
   split
   ·rcases Zhl (rs:=rs) (x:=(hdp (Zai r)).1) (i:=1) (ls:=[]) (lb:=[]) (tk:=(hdp (Zai r)).1.all) with h | h
    ·rw [h]
     exact Zel _
    ·rw [h]
     exact ZiB
   ·exact ZiB
theorem Zf0:∀ {rs:List ByteArray} {x:HdT} {i:Nat} {ls:List ByteArray} {lb:List (ByteArray × Nat)} {tk:List ByteArray},(Zau x rs i ls lb tk).1.lines.length≤ls.length+rs.length∧(Zau x rs i ls lb tk).1.labels.length≤lb.length+rs.length
 | [],x,i,ls,lb,tk=>⟨by simp [Zau],by simp [Zau]⟩
 | r::rs,x,i,ls,lb,tk=>by
   rw [Zau]
   split
   ·simp [dZ]
   ·split
    ·have:=Zf0 (rs:=rs) (x:=x) (i:=i+1) (ls:=ls++[runesBytes (trimS (Zai r))]) (lb:=lb) (tk:=tk)
     simp only [List.length_append,List.length_cons,List.length_nil] at this ⊢
     omega
    ·split
     ·simp [dZ]
     ·have:=Zf0 (rs:=rs) (x:=x) (i:=i+1) (ls:=ls++[runesBytes (trimS (Zai r))]) (lb:=lb++[((ZaO (trimS (Zai r))).1,i)]) (tk:=tk++[(ZaO (trimS (Zai r))).1])
      simp only [List.length_append,List.length_cons,List.length_nil] at this ⊢
      omega
theorem Zfk (rows:List ByteArray):(ZaM rows).1.lines.length≤rows.length∧(ZaM rows).1.labels.length≤rows.length:=by
 match rows with
 | []=>exact ⟨Nat.le_refl _,Nat.le_refl _⟩
 | r::rs =>
   rw [ZaM]
   split
   ·have:=Zf0 (rs:=rs) (x:=(hdp (Zai r)).1) (i:=1) (ls:=[]) (lb:=[]) (tk:=(hdp (Zai r)).1.all)
    simp only [List.length_nil,List.length_cons] at this ⊢
    omega
   ·simp [dZ]
end Go.Im.Defn
namespace Go.Proofs.YtachkofbmodnnaaGreat.D4
open Go Go.Im Go.Im.Limbs Go.Im.Lexing Go.Im.Heads Go.Im.Editing Go.Im.Defn Go.Proofs Go.RowKit Hd H2 H3 H4 H5 D2 D3
set_option maxRecDepth 100000
def Zby (d:DefT):List ByteArray:=txtB d.hd::d.lines
theorem ZdW (d:DefT):(Zby d).length=d.lines.length+1:=rfl
theorem ZeO {x:HdT} (G:Heads.Good x):x.nm.size≤1000000∧x.re.size≤1000000∧x.le.size≤1000000∧x.ri.size≤1000000∧∀ y ∈ x.ls,y.size≤1000000 :=
 ⟨Nat.le_trans G.nm YI,Nat.le_trans G.re YI,Nat.le_trans G.le YI,Nat.le_trans G.ri YI,fun y hy=>Nat.le_trans (G.ls y hy) YI⟩
theorem Zj4 {h w:Heap} {b:Nat} {t:ByteArray} {ls:List ByteArray} {a:Option Addr} {c:Nat} (hb:b < w.size) (hg:w.get b= .cells [.string t] 1) (s:Sl w 1 a ls.length c (sv ls)) (hm:ls.length≤100000) (low:Nat) :
  ∃ a' c' w',iapp low w 1 16 (.slice (some ⟨b,0,none⟩) 1 1) ls.length (some (sv ls))=some (.slice a' (ls.length+1) c',w')∧Ext w w'∧Sl w' 1 a' (ls.length+1) c' (sv (t::ls)):=by
 by_cases h0:ls.length=0
 ·have:ls=[]:=List.eq_nil_of_length_eq_zero h0
  subst this
  refine ⟨some ⟨b,0,none⟩,1,w,?_,Ext.refl w,.inr (.inr ⟨b,0,_,rfl,by omega,hb,by rw [hg];rfl,by simp,rfl,.inl ⟨by simp,by simp [big]⟩⟩)⟩
  simp [iapp]
 ·refine ⟨some ⟨w.size,0,none⟩,big,w.push (.cells (.string t::sv ls) 1),?_,(Ext.refl w).push _,.inr (.inr ⟨w.size,0,_,rfl,by simp [big],by simp,by rw [Heap.Zam,if_pos rfl];rfl,by simp [sv],by rw [List.drop_zero,List.take_of_length_le (by simp [sv])];rfl,.inr rfl⟩)⟩
  simp only [iapp]
  rw [if_neg Ya,if_neg h0]
  simp only [iput,hg]
  rw [if_neg Yp,if_pos YT,if_neg Ya,Nat.add_comm 1]
  simp
theorem Zem (d:DefT) (h:Heap) {v:Value} (V:DV h v d) (G:Heads.Good d.hd) (hm:d.lines.length≤100000):Runs K 42 #[v] h fun r w=>∃ a c,r= .slice a (Zby d).length c∧Sl w 1 a (Zby d).length c (sv (Zby d)):=by
 obtain ⟨a,c,a1,c1,a2,c2,rfl,s1,s2,s3⟩:=V
 refine Runs.of Kok (Does.intro rfl Ye Tryz.func42 rfl ?_)
 obtain ⟨w1,e1,x1,hs1,z1⟩:=lay1 h (.cells [.string d.hd.nm,.string d.hd.re,.string d.hd.le,.string d.hd.ri,.slice a d.hd.ls.length c,.slice a1 d.lines.length c1,.slice a2 d.labels.length c2] 7)
 have txr:=ZjQ d.hd w1 (s1.ext x1) (by have:=G.few;omega) (ZeO G)
 simp only [H2.hl] at txr
 simp +decide only [go_sem,WR,WS,dl,e1,z1]
 refine Zaa Kok x1.1 txr fun r w2 x2 hr=> ?_
 subst hr
 have z2:w2.get h.size=_:=(x2.2 _ Ya).trans z1
 obtain ⟨w3,e3,x3,hs3,z3⟩:=lay1 w2 (.cells [.string (txtB d.hd)] 1)
 have z23:w3.get h.size=_:=(x3.2 _ (by have:=x2.1;omega)).trans z2
 have s2':=s2.ext (x1.trans (x2.trans x3))
 have is2:=s2'.isl
 obtain ⟨a',c',w4,f4,x4,s4⟩:=Zj4 (h:=h) Ya z3 s2' hm h.size
 obtain ⟨ad,had⟩:∃ ad,ad=Value.slice a1 d.lines.length c1:=⟨_,rfl⟩
 have hld:∃ ad',Value.slice a1 d.lines.length c1= .slice ad' d.lines.length c1:=⟨_,rfl⟩
 simp +decide only [go_sem,WR,WS,z2,e3,z23,is2,f4]
 exact ⟨a',c',rfl,s4⟩
theorem ZgE (d:DefT) (h:Heap) {v:Value} (V:DV h v d) (G:Heads.Good d.hd) (hm:d.lines.length≤100000):Runs K 43 #[v] h fun r w=>∃ a c,r= .slice a (Zby d).length c∧Sl w 1 a (Zby d).length c (sv (Zby d)):=by
 obtain ⟨a,c,a1,c1,a2,c2,rfl,s1,s2,s3⟩:=V
 refine Runs.of Kok (Does.intro rfl Ye Tryz.func43 rfl ?_)
 obtain ⟨w1,e1,x1,hs1,z1⟩:=lay1 h (.cells [.string d.hd.nm,.string d.hd.re,.string d.hd.le,.string d.hd.ri,.slice a d.hd.ls.length c,.slice a1 d.lines.length c1,.slice a2 d.labels.length c2] 7)
 have txr:=ZfP d.hd w1 (s1.ext x1) (by have:=G.few;omega) (ZeO G)
 simp only [H2.hl] at txr
 simp +decide only [go_sem,WR,WS,dl,e1,z1]
 refine Zaa Kok x1.1 txr fun r w2 x2 hr=> ?_
 subst hr
 have z2:w2.get h.size=_:=(x2.2 _ Ya).trans z1
 obtain ⟨w3,e3,x3,hs3,z3⟩:=lay1 w2 (.cells [.string (txtB d.hd)] 1)
 have z23:w3.get h.size=_:=(x3.2 _ (by have:=x2.1;omega)).trans z2
 have s2':=s2.ext (x1.trans (x2.trans x3))
 have is2:=s2'.isl
 obtain ⟨a',c',w4,f4,x4,s4⟩:=Zj4 (h:=h) Ya z3 s2' hm h.size
 simp +decide only [go_sem,WR,WS,z2,e3,z23,is2,f4]
 exact ⟨a',c',rfl,s4⟩
end Go.Proofs.YtachkofbmodnnaaGreat.D4
namespace Go.Im.Editing
open Go Go.Im Go.Im.Lexing Go.Im.Heads
theorem ZhC {l:List Int} {i:Nat} (h1:(l.take i).all isD=true) (h2:∀ c,l[i]? =some c→isD c=false):digs l=l.take i:=by
 unfold digs
 have:∀ (a r:List Int),a.all isD=true→(∀ c,r[0]? =some c→isD c=false)→(a++r).takeWhile isD=a:=by
  intro a
  induction a with
  | nil =>
    intro r _ hr
    cases r with
    | nil=>rfl
    | cons c r =>
      rw [List.nil_append,List.takeWhile_cons_of_neg]
      have:=hr c rfl
      simp [this]
  | cons x a ih =>
    intro r ha hr
    simp only [List.all_cons,Bool.and_eq_true] at ha
    rw [List.cons_append,List.takeWhile_cons_of_pos ha.1,ih r ha.2 hr]
 have h:=this (l.take i) (l.drop i) h1 (fun c hc=>h2 c (by rw [List.getElem?_drop] at hc;exact hc))
 rwa [List.take_append_drop] at h
theorem Zne {l:List Int} {i:Nat} (h1:(l.take i).all isD=true):i≤l.length→i≤(digs l).length:=by
 intro hi
 have:∀ (a r:List Int),a.all isD=true→a.length≤((a++r).takeWhile isD).length:=by
  intro a
  induction a with
  | nil=>intro r _;simp
  | cons x a ih =>
    intro r ha
    simp only [List.all_cons,Bool.and_eq_true] at ha
    rw [List.cons_append,List.takeWhile_cons_of_pos ha.1,List.length_cons,List.length_cons]
    have:=ih r ha.2
    omega
 have h:=this (l.take i) (l.drop i) h1
 rw [List.take_append_drop,List.length_take] at h
 unfold digs
 omega
theorem ZhJ {l:List Int} {i:Nat} {c:Int} (h:l[i]? =some c) (h1:(l.take i).all isD=true) (h2:isD c=true):(l.take (i+1)).all isD=true:=by
 rw [List.take_add_one,h,List.all_append,h1]
 simp [h2]
def RA (l:List Int) (i:Nat) (n part:Nat):Prop:=i≤3∧i≤l.length∧(l.take i).all isD=true∧n=decI (l.take i)∧part=10000
def RB' (l:List Int) (j i:Nat) (n part:Nat):Prop:=1≤j∧j≤3∧(l.take j).all isD=true∧l[j]? =some 46∧j+1 < l.length∧j+1≤i∧i≤l.length∧i - (j+1)≤4∧((l.drop (j+1)).take (i - (j+1))).all isD=true ∧
 n=decI (l.take j)*10000+frac 1000 ((l.drop (j+1)).take (i - (j+1)))∧part=1000 / 10 ^ (i - (j+1))
theorem ZuT:isD 46=false:=by decide
theorem Zp6 (l:List Int):RA l 0 0 10000:=⟨by omega,by omega,by simp,by simp [decI],rfl⟩
theorem Zoa {l:List Int} {i n part:Nat} {c:Int} (H:RA l i n part) (h:l[i]? =some c) (hd:isD c=true) (hi:i≤2):RA l (i+1) (10*n+(c.toNat - 48)) 10000:=by
 obtain ⟨h1,h2,h3,h4,h5⟩:=H
 have:=(List.getElem?_eq_some_iff.1 h).1
 refine ⟨by omega,by omega,ZhJ h h3 hd,?_,rfl⟩
 rw [List.take_add_one,h,Option.toList_some,Znh,h4]
theorem Zn9 {l:List Int} {i n part:Nat} (H:RA l i n part) (h:l[i]? =some 46) (h0:0 < i) (h1:i+1 < l.length):RB' l i (i+1) (n*10000) 1000:=by
 obtain ⟨q1,q2,q3,q4,q5⟩:=H
 exact ⟨h0,q1,q3,h,h1,by omega,by omega,by omega,by simp,by simp [frac,q4],by simp⟩
theorem Zj1 {l:List Int} {i n part:Nat} {c:Int} (H:RA l i n part) (h:l[i]? =some c) (hd:isD c=false) (hp:¬ (c=46∧0 < i∧i+1 < l.length)):Za4 l=none:=by
 obtain ⟨h1,h2,h3,h4,h5⟩:=H
 have hlt:=(List.getElem?_eq_some_iff.1 h).1
 have e:digs l=l.take i:=ZhC h3 fun d hh=>by rw [h] at hh;cases hh;exact hd
 have el:(digs l).length=i:=by rw [e,List.length_take];omega
 unfold Za4
 rw [el]
 by_cases h0:i=0
 ·rw [if_pos (.inl h0)]
 rw [if_neg Ya,if_neg Ya,if_neg]
 rintro ⟨g1,g2,g3,g4⟩
 rw [h] at g1
 cases g1
 rw [List.length_drop] at g2
 exact hp ⟨rfl,by omega,by omega⟩
theorem Zp7 {l:List Int} {i n part:Nat} {c:Int} (H:RA l i n part) (h:l[i]? =some c) (hd:isD c=true) (hi:2 < i):Za4 l=none:=by
 obtain ⟨h1,h2,h3,h4,h5⟩:=H
 have hlt:=(List.getElem?_eq_some_iff.1 h).1
 have:=Zne (ZhJ h h3 hd) Ya
 unfold Za4
 rw [if_pos (.inr Ya)]
theorem Zsf {l:List Int} {i n part:Nat} (H:RA l i n part) (h:i=l.length):Za4 l=if l=[] then none else some (n*10000):=by
 obtain ⟨h1,h2,h3,h4,h5⟩:=H
 subst h
 rw [List.take_length] at h3 h4
 have e:digs l=l:=by
  have:=ZhC (l:=l) (i:=l.length) (by rw [List.take_length];exact h3) (fun c hc=>by simp at hc)
  rwa [List.take_length] at this
 unfold Za4
 rw [e]
 by_cases h0:l=[]
 ·subst h0
  rfl
 ·have:l.length≠0:=fun hh=>h0 (List.eq_nil_of_length_eq_zero hh)
  rw [if_neg Ya,if_pos rfl,if_neg h0,h4]
theorem Zp4 {l:List Int} {j i n part:Nat} (H:RB' l j i n part):Za4 l=if (l.drop (j+1)).length≤4∧(l.drop (j+1)).all isD=true then some (decI (l.take j)*10000+frac 1000 (l.drop (j+1))) else none:=by
 obtain ⟨h1,h2,h3,h4,h5,h6,h7,h8,h9,h10,h11⟩:=H
 have e:digs l=l.take j:=ZhC h3 fun d hh=>by rw [h4] at hh;cases hh;exact ZuT
 have el:(digs l).length=j:=by rw [e,List.length_take];omega
 unfold Za4
 rw [el,if_neg Ya,if_neg Ya,e]
 by_cases hc:(l.drop (j+1)).length≤4∧(l.drop (j+1)).all isD=true
 ·rw [if_pos ⟨h4,by rw [List.length_drop];omega,hc.1,hc.2⟩,if_pos hc]
 ·rw [if_neg (fun hh=>hc ⟨hh.2.2.1,hh.2.2.2⟩),if_neg hc]
theorem drop_at {l:List Int} {j i:Nat} {c:Int} (h:l[i]? =some c) (hj:j+1≤i):(l.drop (j+1))[i - (j+1)]? =some c:=by
 rw [List.getElem?_drop,show j+1+(i - (j+1))=i by omega]
 exact h
theorem Zn8 {l:List Int} {j i n part:Nat} {c:Int} (H:RB' l j i n part) (h:l[i]? =some c) (hd:isD c=true) (hp:part≠0):RB' l j (i+1) (n+(c.toNat - 48)*part) (part / 10):=by
 obtain ⟨h1,h2,h3,h4,h5,h6,h7,h8,h9,h10,h11⟩:=H
 have hlt:=(List.getElem?_eq_some_iff.1 h).1
 have h4':i - (j+1)≠4:=by
  intro hh
  rw [hh] at h11
  simp at h11
  omega
 have e1:i+1 - (j+1)=(i - (j+1))+1:=Ya
 have hc:=drop_at h h6
 refine ⟨h1,h2,h3,h4,h5,by omega,by omega,by omega,?_,?_,?_⟩
 ·rw [e1]
  exact ZhJ hc h9 hd
 ·rw [e1,List.take_add_one,hc,Option.toList_some,ZiE,h10,h11,List.length_take,List.length_drop,Nat.min_eq_left Ya]
  omega
 ·rw [e1,h11,Nat.pow_succ,Nat.div_div_eq_div_mul]
theorem Zl7 {l:List Int} {j i n part:Nat} {c:Int} (H:RB' l j i n part) (h:l[i]? =some c) (hd:isD c=false):Za4 l=none:=by
 rw [Zp4 H,if_neg]
 rintro ⟨_,g⟩
 obtain ⟨h1,h2,h3,h4,h5,h6,h7,h8,h9,h10,h11⟩:=H
 have:=List.all_eq_true.1 g c (List.mem_of_getElem? (drop_at h h6))
 rw [hd] at this
 cases this
theorem Zp5 {l:List Int} {j i n:Nat} {c:Int} (H:RB' l j i n 0) (h:l[i]? =some c):Za4 l=none:=by
 rw [Zp4 H,if_neg]
 rintro ⟨g,_⟩
 obtain ⟨h1,h2,h3,h4,h5,h6,h7,h8,h9,h10,h11⟩:=H
 have hlt:=(List.getElem?_eq_some_iff.1 h).1
 rw [List.length_drop] at g
 have h12:i - (j+1)=0∨i - (j+1)=1∨i - (j+1)=2∨i - (j+1)=3:=Ya
 rcases h12 with hh | hh | hh | hh<;>(rw [hh] at h11;simp at h11)
theorem Zse {l:List Int} {j i n part:Nat} (H:RB' l j i n part) (h:i=l.length):Za4 l=some n:=by
 have H':=H
 obtain ⟨h1,h2,h3,h4,h5,h6,h7,h8,h9,h10,h11⟩:=H
 have e:(l.drop (j+1)).take (i - (j+1))=l.drop (j+1):=List.take_of_length_le (by rw [List.length_drop];omega)
 rw [e] at h9 h10
 rw [Zp4 H',if_pos ⟨by rw [List.length_drop];omega,h9⟩,h10]
theorem ZjD:∀ {l:List Int},l.all isD=true→decI l < 10 ^ l.length:=by
 intro l
 have:∀ (l:List Int) (n:Nat),l.all isD=true→l.foldl (fun n c=>10*n+(c.toNat - 48)) n < (n+1)*10 ^ l.length:=by
  intro l
  induction l with
  | nil=>intro n _;simp
  | cons c l ih =>
    intro n h
    simp only [List.all_cons,Bool.and_eq_true] at h
    have hc:c.toNat - 48≤9:=by
     have:=h.1
     simp only [isD,Bool.and_eq_true,decide_eq_true_eq] at this
     omega
    have:=ih (10*n+(c.toNat - 48)) h.2
    rw [List.foldl_cons,List.length_cons,Nat.pow_succ]
    refine Nat.lt_of_lt_of_le this ?_
    have:(n+1)*(10 ^ l.length*10)=(10*n+10)*10 ^ l.length:=by
     rw [Nat.mul_comm (10 ^ l.length) 10,← Nat.mul_assoc]
     congr 1
     omega
    rw [this]
    exact Nat.mul_le_mul_right _ Ya
 intro h
 have:=this l 0 h
 rw [Nat.zero_add,Nat.one_mul] at this
 exact this
theorem Zp8 {l:List Int} {i n part:Nat} (H:RA l i n part):n < 1000:=by
 obtain ⟨h1,h2,h3,h4,h5⟩:=H
 have:=ZjD h3
 rw [List.length_take,Nat.min_eq_left h2,← h4] at this
 have:n < 10 ^ 3:=Nat.lt_of_lt_of_le this (Nat.pow_le_pow_right Ya h1)
 omega
theorem Zjz:∀ {l:List Int} {p:Nat},l.all isD=true→frac p l≤10*p
 | [],p,_=>by simp [frac]
 | c::l,p,h=>by
   simp only [List.all_cons,Bool.and_eq_true] at h
   have hc:c.toNat - 48≤9:=by
    have:=h.1
    simp only [isD,Bool.and_eq_true,decide_eq_true_eq] at this
    omega
   have h1:=Zjz (p:=p / 10) h.2
   have h2:(c.toNat - 48)*p≤9*p:=Nat.mul_le_mul_right _ hc
   rw [frac]
   omega
theorem ZuJ {l:List Int} {j i n part:Nat} (H:RB' l j i n part):n≤10000000∧part≤1000:=by
 obtain ⟨h1,h2,h3,h4,h5,h6,h7,h8,h9,h10,h11⟩:=H
 have q1:=ZjD h3
 rw [List.length_take,Nat.min_eq_left Ya] at q1
 have q2:decI (l.take j) < 10 ^ 3:=Nat.lt_of_lt_of_le q1 (Nat.pow_le_pow_right Ya h2)
 have q3:=Zjz (p:=1000) h9
 refine ⟨by omega,?_⟩
 rw [h11]
 exact Nat.div_le_self _ _
def rdF:Nat→Nat→List UInt8
 | 0,_=>[]
 | f+1,n=>if n=0 then [] else UInt8.ofNat (48+n%10)::rdF f (n / 10)
theorem Zj0:∀ {f g n:Nat},n < 10 ^ f→f≤g→rdF g n=rdF f n
 | 0,g,n,h,_=>by
   have:n=0:=by simpa using h
   subst this
   cases g<;>simp [rdF]
 | f+1,0,n,h,hg=>by omega
 | f+1,g+1,n,h,hg=>by
   rw [rdF,rdF]
   by_cases h0:n=0
   ·simp [h0]
   ·rw [if_neg h0,if_neg h0,Zj0 (f:=f) (by rw [Nat.pow_succ] at h;omega) Ya]
def frF:Nat→Nat→Nat→List UInt8
 | 0,_,_=>[]
 | f+1,r,p=>if r=0 then [] else UInt8.ofNat (48+r / p)::frF f (r%p) (p / 10)
def ZaH (w:Nat):List UInt8:=if w=0 then [48] else (rdF 5 w).reverse
def Zgb (r:Nat):List UInt8:=if r=0 then [] else 46::frF 4 r 1000
def numT (n:Nat):List UInt8:=ZaH (n / 10000)++Zgb (n%10000)
def rt0 (l:List UInt8):List UInt8:=(l.reverse.dropWhile fun c=>c == 48).reverse
def okW (w:Nat):Bool:=(I8 (ZaH w)).all isD && decide (1≤(ZaH w).length) && decide ((ZaH w).length≤3) && decide (decI (I8 (ZaH w))=w)
def okF (r:Nat):Bool:=(I8 (frF 4 r 1000)).all isD && decide (1≤(frF 4 r 1000).length) && decide ((frF 4 r 1000).length≤4) && decide (frac 1000 (I8 (frF 4 r 1000))=r) && ((frF 4 r 1000) == rt0 ((rdF 5 (10000+r)).reverse.drop 1))
set_option maxRecDepth 1000000 in
theorem allW:(List.range 1000).all okW=true:=by decide +kernel
set_option maxRecDepth 1000000 in
theorem allF:(List.range 10000).all (fun r=>r == 0 || okF r)=true:=by decide +kernel
theorem Zj5 {w:Nat} (h:w < 1000):(I8 (ZaH w)).all isD=true∧1≤(ZaH w).length∧(ZaH w).length≤3∧decI (I8 (ZaH w))=w:=by
 have:=List.all_eq_true.1 allW w (List.mem_range.2 h)
 simpa [okW,and_assoc] using this
theorem Zj6 {r:Nat} (h:r < 10000) (h0:r≠0):(I8 (frF 4 r 1000)).all isD=true∧1≤(frF 4 r 1000).length∧(frF 4 r 1000).length≤4∧frac 1000 (I8 (frF 4 r 1000))=r∧frF 4 r 1000=rt0 ((rdF 5 (10000+r)).reverse.drop 1):=by
 have:=List.all_eq_true.1 allF r (List.mem_range.2 h)
 simpa [okF,h0,and_assoc] using this
theorem ZpN:rt0 ((rdF 5 10000).reverse.drop 1)=[]:=by decide +kernel
end Go.Im.Editing
