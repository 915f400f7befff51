/- Proved here: parts of the way to BEditPlays (BD11 BD12 BD13); no condition beyond those that each theorem names. -/
import Derived.Test.YtachkofbmodnnaaGreatP24
set_option linter.unusedSimpArgs false
set_option linter.unusedVariables false
namespace Go.Proofs.YtachkofbmodnnaaGreat.D11
open Go Go.Im Go.Im.Limbs Go.Im.Lexing Go.Im.Heads Go.Im.Editing Go.Im.Defn Go.Proofs Go.RowKit Hd H2 H4 H5 H8 N23 D4 E2 E5 E7 D5 D8 D9 D10
set_option maxRecDepth 100000
def CmdQ (low:Nat) (h:Heap) (q b:Nat) (x:EdT) (m:Option (List ByteArray × EdT)) (r:Value) (w:Heap):Prop :=
 ∃ b' v,r= .tuple #[v,.bool m.isSome]∧EP low w q b' ((m.map (·.2)).getD x)∧(b'=b∨h.size≤b')∧Frm (fun i=>i=q∨i=b) h w∧∀ out y,m=some (out,y)→∃ a c,v= .slice a out.length c∧SlF w (fun i=>i < h.size) 1 a out.length c (sv out)
theorem CmdQ.no {low:Nat} {h:Heap} {q b:Nat} {x:EdT} (E:EP low h q b x) {w:Heap} (xw:Ext h w) (v:Value) {m:Option (List ByteArray × EdT)} (hm:m=none):CmdQ low h q b x m (.tuple #[v,.bool false]) w:=by
 subst hm
 exact ⟨b,v,rfl,E.ext xw,.inl rfl,Frm.ext xw,fun _ _ e=>by cases e⟩
theorem ZcN {w:Heap} {F:Nat→Prop}:SlF w F 1 none 0 0 (sv []):=⟨Sl.nil w 1,fun h=>by omega⟩
theorem Zkc {c:Int} (h:isD c=true):c≠9109∧c≠8710:=by
 simp only [isD,Bool.and_eq_true,decide_eq_true_eq] at h
 omega
set_option maxHeartbeats 1000000 in
theorem ZiC {low:Nat} {h:Heap} (hlow:low≤h.size) {q b:Nat} {x:EdT} (E:EP low h q b x) (I:Inv x) {l tx:List Int} {lv tv:Value} (t:Ln h lv l) (t2:Ln h tv tx) (htr:trimS tx=tx) (hm:l.length≤100000) (hm2:tx.length≤100000) :
  Does K low 48 #[.pointer (some ⟨q,0,none⟩),lv,tv] h (CmdQ low h q b x (cmdS x l tx)):=by
 obtain ⟨la,lc,rfl⟩:=t.open
 obtain ⟨ta,tc,rfl⟩:=t2.open
 have h0r:0 < x.rows.length:=by
  obtain ⟨t,ht⟩:=ZbA.1 I.zero
  exact List.length_pos_of_mem ht
 have V:=E.ev h0r
 refine Does.intro rfl Yf Tryz.func48 rfl ?_
 by_cases hl0:((l.length:Nat):Int)=0
 ·have hl:l=[]:=List.eq_nil_of_length_eq_zero Ya
  have:cmdS x l tx=none:=by
   rw [hl]
   rfl
  simp +decide only [go_sem,WR,WS,eq_true hl0]
  exact CmdQ.no E (Ext.refl h) _ this
 have hpos:0 < l.length:=Ya
 obtain ⟨c0,hc0⟩:∃ c,l[0]? =some c:=⟨_,List.getElem?_eq_getElem hpos⟩
 obtain ⟨c9,hc9⟩:∃ c,l[l.length - 1]? =some c:=⟨_,List.getElem?_eq_getElem Ya⟩
 have hhd:l.head? =some c0:=by rw [← hc0];cases l<;>rfl
 have hlast:l.getLast? =some c9:=by rw [List.getLast?_eq_getElem?];exact hc9
 obtain ⟨lb,lo,cs,hq,q2,q3,q4⟩:=t.one hc0
 obtain ⟨lb',lo',cs',hq',_,q3',q5⟩:=t.one hc9
 cases hq
 cases hq'
 rw [q3] at q3'
 cases q3'
 have i1:IntKind.i64.wrap (((l.length:Nat):Int) - 1)=((l.length - 1:Nat):Int):=Yd
 have c00:(0:Int) < ((l.length:Nat):Int):=Ya
 have c91:(0:Int)≤((l.length - 1:Nat):Int):=Ya
 have c92:((l.length - 1:Nat):Int) < ((l.length:Nat):Int):=Ya
 simp +decide only [go_sem,WS]
 (rw [WR];simp +decide only [go_sem,WS])
 apply ZaW (α:=Unit) (fun _ e W=>e.size=158∧h=W∧e.get 0= .pointer (some ⟨q,0,none⟩)∧e.get 1= .slice (some ⟨lb,lo,none⟩) l.length big∧e.get 2= .slice ta tx.length tc∧(tx≠[]∨(c0≠9109∧c9≠9109∧c0≠8710)))
 ·intro cont
  rw [Nat.add_zero] at q4
  by_cases ht:((tx.length:Nat):Int)=0
  case neg =>
   have htx:tx≠[]:=fun e=>ht (by rw [e];rfl)
   (rw [WR];simp +decide only [go_sem,WS,hl0])
   by_cases h1:c0=9109<;>by_cases h2:c9=9109<;>by_cases h3:c0=8710<;>by_cases h4:((l.length:Nat):Int)=1 <;>
    ((rw [WR];simp +decide only [go_sem,WS,c00,Int.toNat_natCast,q3,q4,h1,h4,ht])
     (rw [WR];simp +decide only [go_sem,WS,c00,Int.toNat_natCast,q3,q4,h1,ht])
     (rw [WR];simp +decide only [go_sem,WS,c91,c92,i1,Int.toNat_natCast,q3,q5,h2,ht])
     (rw [WR];simp +decide only [go_sem,WS,c00,Int.toNat_natCast,q3,q4,h3,ht])
     exact cont () _ _ ⟨Yc,rfl,Yc,Yc,Yc,.inl htx⟩)
  have htx:tx=[]:=List.eq_nil_of_length_eq_zero Ya
  have lne:l≠[]:=fun e=>by rw [e] at hpos;simp at hpos
  have nd:c0=9109∨c9=9109∨c0=8710→ZaY l=none:=by
   intro hc
   cases hrd:ZaY l with
   | none=>rfl
   | some n =>
     exfalso
     obtain ⟨d,hd1,hd2⟩:=Zku hrd
     obtain ⟨f,hf1,hf2⟩:=ZlC hrd
     rw [hhd] at hd1
     rw [hlast] at hf1
     cases hd1
     cases hf1
     have g1:=Zkc hd2
     have g2:=Zkc hf2
     omega
  have hor:¬ (l=[]∨tx≠[]):=by simp [lne,htx]
  have cs0:ZaY l=none→cmdS x l tx=if l.head? =some 9109 then (if l.length=1 then some (Zba x.rows 0 9999999,x) else (ZaY (l.drop 1)).map fun (n:Nat)=>(Zba x.rows (n:Int) 9999999,x))
    else if l.getLast? =some 9109 then (ZaY l.dropLast).map fun (n:Nat)=>(Zba x.rows (n:Int) (n:Int),{ x with nx:=n })
    else if l.head? =some 8710 then (ZaY (l.drop 1)).bind fun n=>(Zb3 x n).map fun y=>([],y)
    else none:=fun hr=>by simp only [cmdS,hr];rw [if_neg hor]
  rw [hhd,hlast] at cs0
  (rw [WR];simp +decide only [go_sem,WS,hl0])
  by_cases h1:c0=9109
  ·have hcm:=cs0 (nd (.inl h1))
   rw [if_pos (by rw [h1])] at hcm
   by_cases h4:((l.length:Nat):Int)=1
   ·rw [if_pos Ya] at hcm
    (rw [WR];simp +decide only [go_sem,WS,c00,Int.toNat_natCast,q3,q4,h1,h4,ht])
    (rw [WR];simp +decide only [go_sem,WS])
    refine Zaa Kok hlow (Ze8 x I 0 9999999 h V) fun r w1 x1 hr=> ?_
    obtain ⟨a',c',rfl⟩:=hr.shape
    simp +decide only [go_sem,WS]
    rw [hcm]
    refine ⟨b,_,rfl,E.ext x1,.inl rfl,Frm.ext x1,fun out y hy=> ?_⟩
    cases hy
    exact ⟨_,_,rfl,ZcT hr fun c hc=>by omega⟩
   ·rw [if_neg Ya] at hcm
    (rw [WR];simp +decide only [go_sem,WS,c00,Int.toNat_natCast,q3,q4,h1,h4,ht])
    (rw [WR];simp +decide only [go_sem,WS,c00,Int.toNat_natCast,q3,q4,h1,ht])
    obtain ⟨a1,c1,e1,t1⟩:=t.cut (lo:=some (.int .i64 1)) (hi:=none) (x:=1) (y:=l.length) Yz rfl Ya (Nat.le_refl _)
    rw [List.take_of_length_le Yp] at t1
    have ll:(l.drop 1).length=l.length - 1:=Yp
    (rw [WR];simp +decide only [go_sem,WS,e1])
    rw [← ll] at t1 ⊢
    refine Zaa Kok hlow (Zda (l.drop 1) h t1 Ya) fun r w1 x1 hr=> ?_
    obtain ⟨hw,z,rfl,hz,_,_⟩:=hr
    have hw:=hw.symm
    subst hw
    simp +decide only [go_sem,WS]
    (rw [WR];simp +decide only [go_sem,WS])
    refine Zaa Kok hlow (Ze8 x I z 9999999 h V) fun r w1 x1 hr=> ?_
    obtain ⟨a',c',rfl⟩:=hr.shape
    simp +decide only [go_sem,WS]
    rw [hcm]
    cases hrd:ZaY (l.drop 1) with
    | none =>
      exact CmdQ.no E x1 _ rfl
    | some n =>
      have hz:=hz n hrd
      subst hz
      refine ⟨b,_,rfl,E.ext x1,.inl rfl,Frm.ext x1,fun out y hy=> ?_⟩
      cases hy
      exact ⟨_,_,rfl,ZcT hr fun c hc=>by omega⟩
  (rw [WR];simp +decide only [go_sem,WS,c00,Int.toNat_natCast,q3,q4,h1,ht])
  (rw [WR];simp +decide only [go_sem,WS,c00,Int.toNat_natCast,q3,q4,h1,ht])
  have gq:=E.ed
  have lq:=E.lq
  by_cases h2:c9=9109
  ·have hcm:=cs0 (nd (.inr (.inl h2)))
   rw [if_neg (by simpa using h1),if_pos (by rw [h2])] at hcm
   (rw [WR];simp +decide only [go_sem,WS,c91,c92,i1,Int.toNat_natCast,q3,q5,h2,ht])
   obtain ⟨a1,c1,e1,t1⟩:=t.cut (lo:=none) (hi:=some (.int .i64 ((l.length - 1:Nat):Int))) (x:=0) (y:=l.length - 1) rfl Yz Ya Ya
   rw [Nat.sub_zero] at e1 t1
   rw [List.drop_zero,← List.dropLast_eq_take] at t1
   have ll:l.dropLast.length=l.length - 1:=Yp
   (rw [WR];simp +decide only [go_sem,WS,i1,e1])
   rw [← ll] at t1 ⊢
   refine Zaa Kok hlow (Zda l.dropLast h t1 Ya) fun r w1 x1 hr=> ?_
   obtain ⟨hw,z,rfl,hz,_,_⟩:=hr
   have hw:=hw.symm
   subst hw
   simp +decide only [go_sem,WS]
   cases hrd:ZaY l.dropLast with
   | none =>
     (rw [WR];simp +decide only [go_sem,WS,Option.isSome_none])
     (rw [WR];simp +decide only [go_sem,WS])
     refine Zaa Kok hlow (Ze8 x I z z h V) fun r w1 x1 hr=> ?_
     obtain ⟨a',c',rfl⟩:=hr.shape
     simp +decide only [go_sem,WS]
     rw [hcm,hrd]
     exact CmdQ.no E x1 _ rfl
   | some n =>
     have hz:=hz n hrd
     subst hz
     obtain ⟨w2,f2⟩:∃ w2,h.set q (.cells [.slice (some ⟨b,0,none⟩) x.rows.length big,.int .i64 (n:Int)] 2)=w2:=⟨_,rfl⟩
     have E2:EP low w2 q b { x with nx:=n }:=⟨lq,by rw [← f2];exact E.hq,E.lb,by rw [← f2];exact E.hb,E.ne,by rw [← f2,Heap.Zae,if_pos rfl],by rw [← f2,Heap.Zae,if_neg (fun e=>E.ne e.symm)];exact E.row⟩
     have s2:w2.size=h.size:=by rw [← f2];rfl
     (rw [WR];simp +decide only [go_sem,WS,Option.isSome_some])
     (rw [WR];simp +decide only [go_sem,WS,gq,lq,f2])
     (rw [WR];simp +decide only [go_sem,WS])
     refine Zaa Kok Ya (Ze8 { x with nx:=n } (I.at (ZcB hrd)) n n w2 (E2.ev h0r)) fun r w1 x1 hr=> ?_
     obtain ⟨a',c',rfl⟩:=hr.shape
     simp +decide only [go_sem,WS]
     rw [hcm,hrd]
     refine ⟨b,_,rfl,E2.ext x1,.inl rfl,Frm.trans (b:=w2) (by rw [← f2];exact Frm.set (.inl rfl) _) (Frm.ext x1),fun out y hy=> ?_⟩
     cases hy
     exact ⟨_,_,rfl,ZcT hr fun c hc=>by omega⟩
  by_cases h3:c0=8710
  ·have hcm:=cs0 (nd (.inr (.inr h3)))
   rw [if_neg (by simpa using h1),if_neg (by simpa using h2),if_pos (by rw [h3])] at hcm
   (rw [WR];simp +decide only [go_sem,WS,c91,c92,i1,Int.toNat_natCast,q3,q5,h2,ht])
   (rw [WR];simp +decide only [go_sem,WS,c00,Int.toNat_natCast,q3,q4,h3,ht])
   obtain ⟨a1,c1,e1,t1⟩:=t.cut (lo:=some (.int .i64 1)) (hi:=none) (x:=1) (y:=l.length) Yz rfl Ya (Nat.le_refl _)
   rw [List.take_of_length_le Yp] at t1
   have ll:(l.drop 1).length=l.length - 1:=Yp
   (rw [WR];simp +decide only [go_sem,WS,e1])
   rw [← ll] at t1 ⊢
   refine Zaa Kok hlow (Zda (l.drop 1) h t1 Ya) fun r w1 x1 hr=> ?_
   obtain ⟨hw,z,rfl,hz,z0,z9⟩:=hr
   have hw:=hw.symm
   subst hw
   obtain ⟨m,rfl⟩:=Int.eq_ofNat_of_zero_le z0
   simp +decide only [go_sem,WS]
   (rw [WR];simp +decide only [go_sem,WS])
   refine Zaa Kok hlow (Zj3 x I m Ya h V) fun r w1 x1 hr=> ?_
   subst hr
   simp +decide only [go_sem,WS]
   cases hrd:ZaY (l.drop 1) with
   | none =>
     simp +decide only [go_sem,WR,WS,Option.isSome_none]
     rw [hcm,hrd]
     exact CmdQ.no E x1 _ rfl
   | some n =>
     have hz:m=n:=by have:=hz n hrd;omega
     subst hz
     rw [hrd,Option.bind_some] at hcm
     have hfew:=I.few
     rcases Zbw (n:=m) I.rise with ⟨k1,k2⟩ | ⟨k1,t,k2⟩
     ·have:Zb3 x m=none:=by rw [Zb3,if_pos (.inr k1)]
      rw [this] at hcm
      simp +decide only [go_sem,WR,WS,Option.isSome_some,k1]
      rw [hcm]
      exact CmdQ.no E x1 _ rfl
     by_cases h0:(m:Int)=0
     ·have:Zb3 x m=none:=by rw [Zb3,if_pos (.inl Ya)]
      rw [this] at hcm
      simp +decide only [go_sem,WR,WS,Option.isSome_some,k1,eq_true h0]
      rw [hcm]
      exact CmdQ.no E x1 _ rfl
     have hgo:Zb3 x m=some ⟨less m x.rows++more m x.rows,m⟩:=by rw [Zb3,if_neg (by rw [k1];simp;omega)]
     rw [hgo] at hcm
     have kl:=congrArg List.length k2
     rw [List.length_append,List.length_cons] at kl
     obtain ⟨i,hi⟩:∃ i,i=(less m x.rows).length:=⟨_,rfl⟩
     rw [← hi] at kl ⊢
     have i2:IntKind.i64.wrap ((i:Int)+1)=((i+1:Nat):Int):=Yd
     have E1:=E.ext x1
     obtain ⟨cs1,g1,g2,g3⟩:=E1.row
     have gq1:=E1.ed
     (rw [WR];simp +decide only [go_sem,WS,Option.isSome_some,k1,h0])
     (rw [WR];simp +decide only [go_sem,WS,gq1,i2])
     refine ZaQ rfl (Zjj (h:=w1) (n:=x.rows.length) E.lb g1 g2 Ya Ya) fun r w3 hr=> ?_
     obtain ⟨rfl,hs3,k3,cs2,g4,g5,g6⟩:=hr
     have gq3:w3.get q=_:=(k3 q E.ne).trans gq1
     obtain ⟨w4,f4⟩:∃ w4,w3.set q (.cells [.slice (some ⟨b,0,none⟩) (x.rows.length - 1) big,.int .i64 (x.nx:Int)] 2)=w4:=⟨_,rfl⟩
     have gq4:w4.get q= .cells [.slice (some ⟨b,0,none⟩) (x.rows.length - 1) big,.int .i64 (x.nx:Int)] 2:=by rw [← f4,Heap.Zae,if_pos rfl]
     simp +decide only [go_sem,WS,gq3,lq,f4]
     obtain ⟨w5,f5⟩:∃ w5,w4.set q (.cells [.slice (some ⟨b,0,none⟩) (x.rows.length - 1) big,.int .i64 (m:Int)] 2)=w5:=⟨_,rfl⟩
     (rw [WR];simp +decide only [go_sem,WS,gq4,lq,f5])
     (rw [WR];simp +decide only [go_sem,WS])
     rw [hcm]
     have rl:(less m x.rows++more m x.rows).length=x.rows.length - 1:=by rw [List.length_append,← hi];omega
     refine ⟨b,_,rfl,⟨lq,by rw [← f5,← f4];simp only [Heap.size_set];rw [hs3];exact E1.hq,E.lb,by rw [← f5,← f4];simp only [Heap.size_set];rw [hs3];exact E1.hb,E.ne,?_,cs2,?_,?_,?_⟩,.inl rfl,?_,fun out y hy=> ?_⟩
     ·rw [← f5,Heap.Zae,if_pos rfl]
      simp only [Option.map_some,Option.getD_some,rl]
     ·rw [← f5,Heap.Zae,if_neg (fun e=>E.ne e.symm),← f4,Heap.Zae,if_neg (fun e=>E.ne e.symm)]
      exact g4
     ·simp only [Option.map_some,Option.getD_some,rl]
      omega
     ·simp only [Option.map_some,Option.getD_some,rl]
      have e1:cs1.take (i*2)=erv (less m x.rows):=by
       have:(cs1.take (x.rows.length*2)).take (i*2)=cs1.take (i*2):=by rw [List.take_take,Nat.min_eq_left Ya]
       rw [← this,g3,congrArg erv k2,ZaM,hi]
       exact List.take_left' (Zat _)
      have e2:(cs1.take (x.rows.length*2)).drop ((i+1)*2)=erv (more m x.rows):=by
       rw [g3,congrArg erv k2,ZaM,Zej]
       have:erv (less m x.rows)++Value.int .i64 (((m,t):Nat × ByteArray).1:Int)::Value.string ((m,t):Nat × ByteArray).2::erv (more m x.rows)=(erv (less m x.rows)++[Value.int .i64 (m:Int),Value.string t])++erv (more m x.rows):=by simp
       rw [this]
       exact List.drop_left' (by rw [List.length_append,Zat,← hi];simp;omega)
      rw [g6,e1,e2,ZaM]
     ·refine (Frm.ext x1).trans (b:=w1) (Frm.trans (b:=w3) ⟨by omega,fun c hc hf=>k3 c fun e=>hf (.inr e)⟩ ?_)
      rw [← f5,← f4]
      exact Frm.trans (Frm.set (.inl rfl) _) (Frm.set (.inl rfl) _)
     ·cases hy
      exact ⟨_,_,rfl,ZcN⟩
  (rw [WR];simp +decide only [go_sem,WS,c91,c92,i1,Int.toNat_natCast,q3,q5,h2,ht])
  (rw [WR];simp +decide only [go_sem,WS,c00,Int.toNat_natCast,q3,q4,h3,ht])
  exact cont () _ _ ⟨Yc,rfl,Yc,Yc,Yc,.inr ⟨h1,h2,h3⟩⟩
 rintro _ e W ⟨hsz,hw,e0,e1,e2,hc⟩
 subst hw
 have lne:l≠[]:=fun e=>by rw [e] at hpos;simp at hpos
 (rw [WR];simp +decide only [go_sem,WS,hsz,e1])
 refine Zaa Kok hlow (Zda l h t Ya) fun r w1 x1 hr=> ?_
 obtain ⟨hw,z,rfl,hz,_,_⟩:=hr
 have hw:=hw.symm
 subst hw
 cases hrd:ZaY l with
 | none =>
   have hn:cmdS x l tx=none:=by
    simp only [cmdS,hrd,hhd,hlast]
    rcases hc with hc | ⟨h1,h2,h3⟩
    ·rw [if_pos (.inr hc)]
    ·by_cases hx:l=[]∨tx≠[]
     ·rw [if_pos hx]
     ·rw [if_neg hx,if_neg (by simpa using h1),if_neg (by simpa using h2),if_neg (by simpa using h3)]
   simp +decide only [go_sem,WR,WS,hsz,Option.isSome_none]
   exact CmdQ.no E (Ext.refl h) _ hn
 | some n =>
   have hz:=hz n hrd
   subst hz
   have hn:=ZcB hrd
   by_cases ht:tx=[]
   ·have hcm:cmdS x l tx=some ([],{ x with nx:=n }):=by
     simp only [cmdS,hrd]
     rw [if_pos ht]
    have gq:=E.ed
    have lq:=E.lq
    have tl:¬ (0:Int) < ((tx.length:Nat):Int):=by rw [ht];simp
    simp +decide only [go_sem,WR,WS,hsz,e0,e2,Option.isSome_some,tl,gq,lq]
    rw [hcm]
    refine ⟨b,_,rfl,⟨lq,E.hq,E.lb,E.hb,E.ne,by rw [Heap.Zae,if_pos rfl];rfl,?_⟩,.inl rfl,Frm.set (.inl rfl) _,fun out y hy=> ?_⟩
    ·rw [Heap.Zae,if_neg (fun e=>E.ne e.symm)]
     exact E.row
    ·cases hy
     exact ⟨_,_,rfl,ZcN⟩
   ·have hcm:cmdS x l tx=(setS x n tx).map fun y=>([],y):=by
     simp only [cmdS,hrd]
     rw [if_neg ht]
    have tl:(0:Int) < ((tx.length:Nat):Int):=by
     have:=List.length_pos_iff.2 ht
     omega
    simp +decide only [go_sem,WS,hsz,Option.isSome_some]
    (rw [WR];simp +decide only [go_sem,WS,hsz,Option.isSome_some])
    (rw [WR];simp +decide only [go_sem,WS,hsz,e2,tl])
    (rw [WR];simp +decide only [go_sem,WS,hsz,e0,e2])
    refine ZaQ rfl (ZjA hlow E I hn t2 htr Ya) fun r w3 hr=> ?_
    obtain ⟨b',rfl,E3,hb',fr⟩:=hr
    simp +decide only [go_sem,WS,hsz]
    rw [hcm]
    refine ⟨b',.slice none 0 0,?_,?_,hb',fr,fun out y hy=> ?_⟩
    ·cases setS x n tx<;>rfl
    ·cases hs:setS x n tx with
     | none=>rw [hs] at E3;exact E3
     | some y=>rw [hs] at E3;exact E3
    ·obtain ⟨z,_,hz⟩:=Option.map_eq_some_iff.1 hy
     cases hz
     exact ⟨_,_,rfl,ZcN⟩
def DoQ (low:Nat) (h:Heap) (q b:Nat) (m:List ByteArray × Bool × Int × EdT) (r:Value) (w:Heap):Prop :=
 ∃ b' a c,r= .tuple #[.slice a m.1.length c,.bool m.2.1,.int .i64 m.2.2.1]∧EP low w q b' m.2.2.2∧(b'=b∨h.size≤b')∧Frm (fun i=>i=q∨i=b) h w∧SlF w (fun i=>i < h.size) 1 a m.1.length c (sv m.1)
theorem Zqc {low:Nat} {h:Heap} (hlow:low≤h.size) {q b:Nat} {x:EdT} (E:EP low h q b x) (I:Inv x) {l:List Int} {lv:Value} (t:Ln h lv l) (hm:l.length≤10000) :
  Does K low 21 #[.pointer (some ⟨q,0,none⟩),lv] h (DoQ low h q b (doS x l)):=by
 obtain ⟨la,lc,rfl⟩:=t.open
 refine Does.intro rfl Yf Tryz.func21 rfl ?_
 simp +decide only [go_sem,WR,WS]
 refine Zaa Kok hlow (E3.Zog l h t Ya) fun r w0 x0 hr=> ?_
 obtain ⟨hw,mv,rfl,tm⟩:=hr
 have hw:=hw.symm
 subst hw
 obtain ⟨m,hmm⟩:∃ m,m=(ZbC l).1:=⟨_,rfl⟩
 obtain ⟨en,hen⟩:∃ en,en=(ZbC l).2:=⟨_,rfl⟩
 have htr:=Ziw l
 have hml:m.length≤10000:=by rw [hmm];exact Nat.le_trans (Zj7 l) hm
 have hdo:doS x l=if m=[] then ([],en,(0:Int),x) else if m.head? =some 91 then match (idx m 93).bind fun i=>cmdS x (trimS ((m.take i).drop 1)) (trimS (m.drop (i+1))) with
   | some (out,y)=>(out,en,(0:Int),y)
   | none=>([],false,(28:Int),x)
  else match setS x x.nx m with
   | some y=>([],en,(0:Int),y)
   | none=>([],false,(28:Int),x):=by rw [hmm,hen];rfl
 rw [← hmm] at tm htr
 rw [← hen]
 generalize hD:doS x l=D at hdo ⊢
 clear hD
 obtain ⟨ma,mc,rfl⟩:=tm.open
 have refuse:D=([],false,28,x)→∀ {w:Heap},Ext h w→DoQ low h q b D (.tuple #[.slice none 0 0,.bool false,.int .i64 28]) w:=by
  rintro rfl w xw
  exact ⟨b,none,0,rfl,E.ext xw,.inl rfl,Frm.ext xw,ZcN⟩
 simp +decide only [go_sem,WS]
 by_cases hl0:((m.length:Nat):Int)=0
 ·have hm0:m=[]:=List.eq_nil_of_length_eq_zero Ya
  rw [if_pos hm0] at hdo
  simp +decide only [go_sem,WR,WS,eq_true hl0]
  subst hdo
  exact ⟨b,none,0,rfl,E,.inl rfl,Frm.refl _ _,ZcN⟩
 have hpos:0 < m.length:=Ya
 rw [if_neg (fun e=>by rw [e] at hpos;simp at hpos)] at hdo
 obtain ⟨c0,hc0⟩:∃ c,m[0]? =some c:=⟨_,List.getElem?_eq_getElem hpos⟩
 have hhd:m.head? =some c0:=by rw [← hc0];cases m<;>rfl
 obtain ⟨lb,lo,cs,hq,q2,q3,q4⟩:=tm.one hc0
 cases hq
 rw [Nat.add_zero] at q4
 have c00:(0:Int) < ((m.length:Nat):Int):=Ya
 (rw [WR];simp +decide only [go_sem,WS,hl0])
 by_cases h1:c0=91
 ·rw [if_pos (by rw [hhd,h1])] at hdo
  (rw [WR];simp +decide only [go_sem,WS,c00,Int.toNat_natCast,q3,q4,h1])
  (rw [WR];simp +decide only [go_sem,WS])
  refine Zaa Kok hlow (ZpT m 93 h tm Ya) fun r w1 x1 hr=> ?_
  obtain ⟨hw,rfl⟩:=hr
  subst hw
  cases hix:idx m 93 with
  | none =>
    rw [hix] at hdo
    simp +decide only [go_sem,WS]
    (rw [WR];simp +decide only [go_sem,WS])
    simp +decide only [go_sem,WR,WS]
    exact refuse hdo (Ext.refl h)
  | some i =>
    have hi:=ZoN hix
    have hil:=(List.getElem?_eq_some_iff.1 hi).1
    have hi1:1≤i:=by
     rcases Nat.eq_zero_or_pos i with h0 | h0
     ·rw [h0,hc0,h1] at hi
      cases hi
     ·exact h0
    rw [hix,Option.bind_some] at hdo
    have ci:¬ (i:Int) < 0:=Ya
    have i1:IntKind.i64.wrap ((i:Int)+1)=((i+1:Nat):Int):=Yd
    obtain ⟨a1,c1,e1,t1⟩:=tm.cut (lo:=some (.int .i64 1)) (hi:=some (.int .i64 (i:Int))) (x:=1) (y:=i) Yz Yz hi1 Ya
    obtain ⟨a2,c2,e2,t2⟩:=tm.cut (lo:=some (.int .i64 ((i+1:Nat):Int))) (hi:=none) (x:=i+1) (y:=m.length) YF rfl Ya (Nat.le_refl _)
    rw [← List.drop_take] at t1
    rw [List.take_of_length_le Yp] at t2
    have l1:((m.take i).drop 1).length=i - 1:=Yl
    have l2:(m.drop (i+1)).length=m.length - (i+1):=Yp
    simp +decide only [go_sem,WS]
    (rw [WR];simp +decide only [go_sem,WS,ci])
    (rw [WR];simp +decide only [go_sem,WS,e1])
    rw [← l1] at t1 ⊢
    refine Zaa Kok hlow (ZaI _ h t1 Ya) fun r w2 x2 hr=> ?_
    obtain ⟨hw,t3⟩:=hr
    have hw:=hw.symm
    subst hw
    simp +decide only [go_sem,WS,i1,e2]
    rw [← l2] at t2 ⊢
    refine Zaa Kok hlow (ZaI _ h t2 Ya) fun r w3 x3 hr=> ?_
    obtain ⟨hw,t4⟩:=hr
    have hw:=hw.symm
    subst hw
    obtain ⟨b1,d1,rfl⟩:=t3.open
    obtain ⟨b2,d2,rfl⟩:=t4.open
    simp +decide only [go_sem,WS]
    have z1:=ZbK ((m.take i).drop 1)
    have z2:=ZbK (m.drop (i+1))
    refine ZaQ rfl (ZiC hlow E I t3 t4 (ZcM _) Ya Ya) fun r w4 hr=> ?_
    obtain ⟨b',v,rfl,E4,hb',fr,hv⟩:=hr
    simp +decide only [go_sem,WS]
    cases hcm:cmdS x (trimS ((m.take i).drop 1)) (trimS (m.drop (i+1))) with
    | none =>
      rw [hcm] at hdo E4
      subst hdo
      simp +decide only [go_sem,WR,WS,Option.isSome_none]
      exact ⟨b',none,0,rfl,E4,hb',fr,ZcN⟩
    | some z =>
      obtain ⟨out,y⟩:=z
      rw [hcm] at hdo E4
      obtain ⟨oa,oc,rfl,so⟩:=hv out y hcm
      subst hdo
      simp +decide only [go_sem,WR,WS,Option.isSome_some]
      exact ⟨b',oa,oc,rfl,E4,hb',fr,so⟩
 ·rw [if_neg (by rw [hhd];simpa using h1)] at hdo
  have gq:=E.ed
  (rw [WR];simp +decide only [go_sem,WS,c00,Int.toNat_natCast,q3,q4,h1])
  (rw [WR];simp +decide only [go_sem,WS,gq])
  refine ZaQ rfl (ZjA hlow E I I.next tm htr Ya) fun r w3 hr=> ?_
  obtain ⟨b',rfl,E3,hb',fr⟩:=hr
  simp +decide only [go_sem,WS]
  cases hs:setS x x.nx m with
  | none =>
    rw [hs] at hdo E3
    subst hdo
    simp +decide only [go_sem,WR,WS,Option.isSome_none]
    exact ⟨b',none,0,rfl,E3,hb',fr,ZcN⟩
  | some y =>
    rw [hs] at hdo E3
    subst hdo
    simp +decide only [go_sem,WR,WS,Option.isSome_some]
    exact ⟨b',none,0,rfl,E3,hb',fr,ZcN⟩
end Go.Proofs.YtachkofbmodnnaaGreat.D11
namespace Go.Im.Editing
open Go Go.Im Go.Im.Lexing Go.Im.Heads Go.Im.Defn
def ZaD (n:Nat) (s:ByteArray) (o:Rows × Bool) (p:Nat × ByteArray):Rows × Bool :=
 let o1:=if n≤p.1∧o.2=false then (o.1++[(n,s)],true) else o
 if p.1=n then o1 else (o1.1++[p],o1.2)
def putF (n:Nat) (s:ByteArray) (r:Rows):Rows × Bool:=r.foldl (ZaD n s) ([],false)
theorem ZlL {n:Nat} {s:ByteArray} {r:Rows} {i:Nat} {p:Nat × ByteArray} (h:r[i]? =some p):putF n s (r.take (i+1))=ZaD n s (putF n s (r.take i)) p:=by
 rw [putF,List.take_add_one,h,List.foldl_append]
 rfl
theorem ZfI {n:Nat} {s:ByteArray}:∀ {L:Rows} {o:Rows} {d:Bool},(∀ p ∈ L,p.1 < n)→L.foldl (ZaD n s) (o,d)=(o++L,d)
 | [],o,d,_=>by simp
 | p::L,o,d,h=>by
   have hp:=h p Yp
   rw [List.foldl_cons]
   have:ZaD n s (o,d) p=(o++[p],d):=by simp [ZaD,show ¬ n≤p.1 by omega,show ¬ p.1=n by omega]
   rw [this,ZfI fun q hq=>h q (by simp [hq])]
   simp
theorem ZfH {n:Nat} {s:ByteArray}:∀ {L:Rows} {o:Rows},(∀ p ∈ L,n < p.1)→L.foldl (ZaD n s) (o,true)=(o++L,true)
 | [],o,_=>by simp
 | p::L,o,h=>by
   have hp:=h p Yp
   rw [List.foldl_cons]
   have:ZaD n s (o,true) p=(o++[p],true):=by simp [ZaD,show ¬ p.1=n by omega]
   rw [this,ZfH fun q hq=>h q (by simp [hq])]
   simp
theorem ZnE {n:Nat} {s:ByteArray} {r:Rows} (hr:Rise r):(if (putF n s r).2=true then (putF n s r).1 else (putF n s r).1++[(n,s)])=less n r++(n,s)::more n r:=by
 have hm:∀ p ∈ more n r,n < p.1:=fun p hp=>Zg1 hp
 rcases Zbw (n:=n) hr with ⟨a,b⟩ | ⟨a,t,b⟩
 ·have e:putF n s r=(more n r).foldl (ZaD n s) (less n r,false):=by
   rw [putF]
   conv=>lhs;rw [b]
   rw [List.foldl_append,ZfI fun p hp=>Zha hp,List.nil_append]
  rw [e]
  generalize more n r=M at hm ⊢
  cases M with
  | nil=>simp
  | cons p M =>
    have hp:=hm p Yp
    rw [List.foldl_cons]
    have:ZaD n s (less n r,false) p=(less n r++[(n,s)]++[p],true):=by simp [ZaD,show n≤p.1 by omega,show ¬ p.1=n by omega]
    rw [this,ZfH fun q hq=>hm q (by simp [hq])]
    simp
 ·have e:putF n s r=((n,t)::more n r).foldl (ZaD n s) (less n r,false):=by
   rw [putF]
   conv=>lhs;rw [b]
   rw [List.foldl_append,ZfI fun p hp=>Zha hp,List.nil_append]
  rw [e,List.foldl_cons]
  have:ZaD n s (less n r,false) (n,t)=(less n r++[(n,s)],true):=by simp [ZaD]
  rw [this,ZfH hm]
  simp
theorem ZiS (n:Nat) (s:ByteArray) (o:Rows × Bool) (p:Nat × ByteArray):(ZaD n s o p).1.length≤o.1.length+2:=by
 simp only [ZaD]
 split<;>split<;>simp
theorem ZjL {n:Nat} {s:ByteArray}:∀ {r:Rows} {o:Rows × Bool},(r.foldl (ZaD n s) o).1.length≤o.1.length+2*r.length
 | [],o=>by simp
 | p::r,o=>by
   rw [List.foldl_cons]
   have h1:=ZjL (n:=n) (s:=s) (r:=r) (o:=ZaD n s o p)
   have h2:=ZiS n s o p
   simp only [List.length_cons]
   omega
theorem Zp3 {l:List Int} (h:(hdp l).2=true):(lex l).isSome=true:=by
 cases hl:lex l with
 | some _=>rfl
 | none=>simp [hdp,hl] at h
end Go.Im.Editing
namespace Go.Proofs.YtachkofbmodnnaaGreat.D12
open Go Go.Im Go.Im.Limbs Go.Im.Lexing Go.Im.Heads Go.Im.Editing Go.Im.Defn Go.Proofs Go.RowKit Hd H2 H4 H5 H7 R9 D4 E2 E5 E7 D5 D8 D9
set_option maxRecDepth 100000
theorem Zf6 {low:Nat} {h W:Heap} (hlow:low≤h.size) (xW:Ext h W) {u:Value} {o:Editing.Rows} (own:Own h.size W 2 u o.length (erv o)) (p:Nat × ByteArray) (hlen:o.length≤1000) :
  ∃ W1 W2,W.push (.cells [.int .i64 (p.1:Int),.string p.2] 2)=W1∧W1.get W.size= .cells [.int .i64 (p.1:Int),.string p.2] 2∧Ext W W1∧Ext h W2∧iapp low W1 2 24 u 1 (some [.int .i64 (p.1:Int),.string p.2])=some (.slice (some ⟨W1.size,0,none⟩) (o.length+1) big,W2) ∧
    Own h.size W2 2 (.slice (some ⟨W1.size,0,none⟩) (o.length+1) big) (o++[p]).length (erv (o++[p])):=by
 obtain ⟨w2,e2,x2,hs2,z2⟩:=lay1 W (.cells [.int .i64 (p.1:Int),.string p.2] 2)
 obtain ⟨w3,f3,o3,hs3,x3⟩:=Za6 (low:=low) (bytes:=24) (k:=1) (new:=[.int .i64 (p.1:Int),.string p.2]) hlow (xW.trans x2) (own.ext x2) Ya Ya rfl Ya Ya
 refine ⟨w2,w3,e2,z2,x2,x3,f3,?_⟩
 have:erv (o++[p])=erv o++[.int .i64 (p.1:Int),.string p.2]:=by rw [ZaM];rfl
 rw [this,List.length_append]
 exact o3
set_option maxHeartbeats 1000000 in
theorem ZjK {low:Nat} {h:Heap} (hlow:low≤h.size) {F:Nat→Prop} (hF:∀ b,F b→b < h.size) {q:Nat} (lq:low≤q) {x:EdT} (E:EQ h F q x) (I:Inv x) {n:Nat} (hn:n≤9999999) {l:List Int} {tv:Value} (t:Ln h tv l) (htr:trimS l=l) (hm:l.length≤1000000) :
  Does K low 49 #[.pointer (some ⟨q,0,none⟩),.int .i64 (n:Int),tv] h fun r w=>r= .bool (setS x n l).isSome∧EQ w F q ((setS x n l).getD x)∧Frm (fun i=>i=q) h w:=by
 have no:∀ {w:Heap},Ext h w→setS x n l=none→Value.bool false= .bool (setS x n l).isSome∧EQ w F q ((setS x n l).getD x)∧Frm (fun i=>i=q) h w:=by
  intro w xw hl
  rw [hl]
  obtain ⟨a,c,g1,g2⟩:=E.ed
  have xs:=xw.1
  have hq:=E.hq
  refine ⟨rfl,⟨by omega,a,c,(xw.2 q E.hq).trans g1,?_⟩,Frm.ext xw⟩
  exact g2.frm (Frm.ext xw)
 obtain ⟨a,c,rfl⟩:=t.open
 refine Does.intro rfl Yf Tryz.func49 rfl ?_
 simp +decide only [go_sem,WR,WS]
 refine Zaa Kok hlow (Zcj l h t Ya) fun r w0 x0 hr=> ?_
 obtain ⟨hw,t0⟩:=hr
 have hw:=hw.symm
 subst hw
 rw [htr] at t0
 obtain ⟨a0,c0,rfl⟩:=t0.open
 have is0:=t0.Zaj
 simp +decide only [go_sem,WS]
 (rw [WR];simp +decide only [go_sem,WS,is0,ZbO])
 apply ZaW (α:=ByteArray) (fun s e W=>e.size=133∧Ext h W∧e.get 0= .pointer (some ⟨q,0,none⟩)∧e.get 1= .int .i64 (n:Int)∧e.get 2= .slice a0 l.length c0∧e.get 7= .string s∧(n=0→(hdp l).2=true∧s=txtB (hdp l).1)∧(n≠0→s=runesBytes l))
 ·intro cont
  by_cases h0:(n:Int)=0
  ·have hn0:n=0:=by omega
   (rw [WR];simp +decide only [go_sem,WS,eq_true h0])
   (rw [WR];simp +decide only [go_sem,WS])
   refine Zaa Kok hlow (Zgm l h t0.tx Ya) fun r w1 x1 hr=> ?_
   obtain ⟨pa,pc,rfl,s1⟩:=hr
   have G:=Zdg l
   have hlz:Zeb n l=_:=(congrArg (Zeb · l) hn0).trans (D10.ZeG (l:=l))
   generalize hX:hdp l=X at s1 G hlz ⊢
   obtain ⟨y,ok⟩:=X
   simp only at s1 G hlz
   obtain ⟨w2,e2,x2,hs2,z2⟩:=lay1 w1 (.cells [.string ByteArray.empty,.string ByteArray.empty,.string ByteArray.empty,.string ByteArray.empty,.slice none 0 0] 5)
   obtain ⟨w3,e3,x3,hs3,z3,k3⟩:=put1 x2 (Nat.le_refl _) (.cells (H2.hl y (.slice pa y.ls.length pc)) 5)
   have x03:=x1.trans x3
   have j1:low≤w1.size:=Nat.le_trans hlow x1.1
   have txr:=ZdW y w3 (s1.ext x3) (by have:=G.few;omega) (Zdh G)
   simp only [H2.hl] at e3 z3 txr
   cases ok with
   | false =>
     simp +decide only [go_sem,WR,WS,H2.hl,e2,z2,j1,e3]
     exact no x03 (by simp only [setS,hlz];rfl)
   | true =>
     simp +decide only [go_sem,WR,WS,H2.hl,e2,z2,j1,e3,z3]
     refine Zaa Kok (Nat.le_trans hlow x03.1) txr fun r w4 x4 hr=> ?_
     subst hr
     simp +decide only [go_sem,WS]
     exact cont (txtB y) _ _ ⟨Yc,x03.trans x4,Yc,Yc,Yc,Yc,fun _=>by rw [hX];exact ⟨rfl,rfl⟩,fun hh=>absurd hn0 hh⟩
  ·have hn0:n≠0:=by omega
   (rw [WR];simp +decide only [go_sem,WS,h0])
   exact cont (runesBytes l) _ _ ⟨Yc,Ext.refl h,Yc,Yc,Yc,Yc,fun hh=>absurd hh hn0,fun _=>rfl⟩
 rintro s e W ⟨hsz,xW,e0,e1,e2,e7,s0,s1⟩
 (rw [WR];simp +decide only [go_sem,WS,hsz,e2])
 refine Zaa Kok (Nat.le_trans hlow xW.1) (Zfb W (t0.ext xW).tx) fun r w3 x3 hr=> ?_
 have xw3:=xW.trans x3
 have hfew:=I.few
 have Vh:=E.ev
 obtain ⟨ra,rc,gq,sl⟩:=E.ed
 rcases hr with ⟨hlex,rfl⟩ | ⟨xs,xa,xc,hlex,hA,hxl,rfl,sx⟩
 ·have hz:setS x n l=none:=by
   have:Zeb n l=none:=by
    by_cases h0:n=0
    ·have:=Zp3 (s0 h0).1
     rw [hlex] at this
     cases this
    ·rw [D10.ZeH h0,hlex]
     rfl
   simp only [setS,this]
  simp +decide only [go_sem,WR,WS,hsz]
  exact no xw3 hz
 have hs:Zeb n l=some s:=by
  by_cases h0:n=0
  ·obtain ⟨g1,g2⟩:=s0 h0
   rw [h0,D10.ZeG,if_pos g1,g2]
  ·rw [D10.ZeH h0,hlex,s1 h0]
   rfl
 have g3:w3.get q=_:=(xw3.2 q E.hq).trans gq
 simp +decide only [go_sem,WS,hsz]
 apply ZaW (α:=Unit) (fun _ e W=>e.size=133∧Ext h W∧e.get 0= .pointer (some ⟨q,0,none⟩)∧e.get 1= .int .i64 (n:Int)∧e.get 7= .string s∧¬ (has n x.rows=false∧200 < x.rows.length))
 ·intro cont
  (rw [WR];simp +decide only [go_sem,WS,hsz,e0,e1])
  refine Zaa Kok (Nat.le_trans hlow xw3.1) (Zo4 x I n w3 (Vh.ext xw3)) fun r w4 x4 hr=> ?_
  obtain ⟨hw,rfl⟩:=hr
  subst hw
  cases hh:has n x.rows with
  | true =>
    have c1:¬ (((less n x.rows).length:Nat):Int) < 0:=Ya
    simp only [if_true]
    simp +decide only [go_sem,WS,hsz,e0,g3,c1]
    exact cont () _ _ ⟨Yb,xw3,Ye,Yh,Yi,by rw [hh];simp⟩
  | false =>
    simp only [Bool.false_eq_true,if_false]
    by_cases c2:(200:Int) < ((x.rows.length:Nat):Int)
    ·simp +decide only [go_sem,WR,WS,hsz,e0,g3,c2]
     refine no xw3 ?_
     simp only [setS,hs]
     rw [if_pos ⟨hh,by omega⟩]
    ·simp +decide only [go_sem,WS,hsz,e0,g3,c2]
     exact cont () _ _ ⟨Yb,xw3,Ye,Yh,Yi,by rw [hh];simp;omega⟩
 rintro _ e W2 ⟨hsz,xW2,e0,e1,e7,hfw⟩
 have hz:setS x n l=some ⟨less n x.rows++(n,s)::more n x.rows,min (n+ZcI n) 9999999⟩:=by
  simp only [setS,hs]
  rw [if_neg hfw]
 rw [hz]
 obtain ⟨m,hmr⟩:∃ m,m=x.rows.length:=⟨_,rfl⟩
 obtain ⟨R,hR⟩:∃ R,R=less n x.rows++(n,s)::more n x.rows:=⟨_,rfl⟩
 have hall:=ZnE (n:=n) (s:=s) I.rise
 rw [← hR] at hall ⊢
 apply ZaW (α:=Value) (fun u e W=>e.size=133∧Ext h W∧e.get 0= .pointer (some ⟨q,0,none⟩)∧e.get 1= .int .i64 (n:Int)∧e.get 12=u∧Own h.size W 2 u R.length (erv R))
 ·intro cont
  (rw [WR];simp +decide only [go_sem,WS,hsz])
  (rw [WR];simp +decide only [go_sem,WS,hsz])
  (rw [WR];simp +decide only [go_sem,WS,hsz])
  refine Zah (α:=Nat × Value) (fun i e W=>i.1≤m∧e.size=133∧Ext h W∧e.get 0= .pointer (some ⟨q,0,none⟩)∧e.get 1= .int .i64 (n:Int)∧e.get 7= .string s∧e.get 12=i.2∧e.get 13= .bool (putF n s (x.rows.take i.1)).2∧e.get 14= .int .i64 (i.1:Int) ∧
   Own h.size W 2 i.2 (putF n s (x.rows.take i.1)).1.length (erv (putF n s (x.rows.take i.1)).1)) (fun i=>m - i.1) (0,.slice none 0 0) ?_ ?_
  ·exact ⟨Nat.zero_le _,Yb,xW2,Ye,Yh,Yi,Yb,by simp +decide only [go_sem,hsz];rfl,by simp +decide only [go_sem,hsz];rfl,Own.nil _ _ _⟩
  rintro ⟨i,u⟩ e W ⟨hi,hsz,xW,e0,e1,e7,e12,e13,e14,own⟩ next
  simp only at hi e12 e13 e14 own
  have gW:W.get q=_:=(xW.2 q E.hq).trans gq
  have hpl:(putF n s (x.rows.take i)).1.length≤402:=by
   have:=ZjL (n:=n) (s:=s) (r:=x.rows.take i) (o:=([],false))
   rw [List.length_take] at this
   simp only [putF]
   simp at this
   omega
  rw [← hmr] at gq gW
  by_cases hil:(i:Int) < ((m:Nat):Int)
  ·obtain ⟨p,hp⟩:∃ p,x.rows[i]? =some p:=⟨_,List.getElem?_eq_getElem Ya⟩
   obtain ⟨b,o,cs,rfl,q2,q30,q4,q5,q6,q7⟩:=ZeU sl.1 hp
   have rd:∀ {w:Heap},Ext h w→(w.get b).read= .cells cs 2:=fun xw=>by rw [xw.2 b q2];exact q30
   have gw:∀ {w:Heap},Ext h w→w.get q= .cells [.slice (some ⟨b,o,none⟩) m rc,.int .i64 (x.nx:Int)] 2:=fun xw=>(xw.2 q E.hq).trans gq
   have q3:=rd xW
   have c0:(0:Int)≤(i:Int):=Ya
   have i1:IntKind.i64.wrap ((i:Int)+1)=((i+1:Nat):Int):=Yd
   have sn:=ZlL (n:=n) (s:=s) hp
   generalize putF n s (x.rows.take i)=P at sn own e13 hpl
   obtain ⟨po,pd⟩:=P
   simp only at own e13 hpl
   by_cases c1:p.1 < n
   ·have d1:¬ (n:Int)≤(p.1:Int):=by omega
    have d2:¬ (p.1:Int)=(n:Int):=Ya
    have st:ZaD n s (po,pd) p=(po++[p],pd):=by simp [ZaD,show ¬ n≤p.1 by omega,show ¬ p.1=n by omega]
    rw [st] at sn
    obtain ⟨W1,W2,f1,z1,x1,xW2,f2,own2⟩:=Zf6 hlow xW own p Ya
    simp +decide only [go_sem,WR,WS,hsz,e0,e1,e12,e13,e14,gW,hil,c0,Int.toNat_natCast,q3,q4,q6,q7,d1,d2,f1,z1,f2,i1]
    refine next (i+1,.slice (some ⟨W1.size,0,none⟩) (po.length+1) big) _ _ ⟨by simp only;omega,Yb,xW2,Ye,Yh,Yi,Yb,by rw [sn];simp +decide only [go_sem,WR,WS,hsz,e13],Yb,by rw [sn];simpa using own2⟩ Yk
   ·have d1:(n:Int)≤(p.1:Int):=by omega
    cases pd with
    | true =>
      by_cases c2:p.1=n
      ·have d2:(p.1:Int)=(n:Int):=by omega
       have st:ZaD n s (po,true) p=(po,true):=by simp [ZaD,c2]
       rw [st] at sn
       simp +decide only [go_sem,WR,WS,hsz,e0,e1,e12,e13,e14,gW,hil,c0,Int.toNat_natCast,q3,q4,d1,eq_true d2,i1]
       exact next (i+1,u) _ _ ⟨by simp only;omega,Yb,xW,Ye,Yh,Yi,Yw,by rw [sn];simp +decide only [go_sem,WR,WS,hsz,e13],Yb,by rw [sn];exact own⟩ Yk
      ·have d2:¬ (p.1:Int)=(n:Int):=by omega
       have st:ZaD n s (po,true) p=(po++[p],true):=by simp [ZaD,c2]
       rw [st] at sn
       obtain ⟨W1,W2,f1,z1,x1,xW2,f2,own2⟩:=Zf6 hlow xW own p Ya
       simp +decide only [go_sem,WR,WS,hsz,e0,e1,e12,e13,e14,gW,hil,c0,Int.toNat_natCast,q3,q4,q6,q7,d1,d2,f1,z1,f2,i1]
       refine next (i+1,.slice (some ⟨W1.size,0,none⟩) (po.length+1) big) _ _ ⟨by simp only;omega,Yb,xW2,Ye,Yh,Yi,Yb,by rw [sn];simp +decide only [go_sem,WR,WS,hsz,e13],Yb,by rw [sn];simpa using own2⟩ Yk
    | false =>
      obtain ⟨W1,W2,f1,z1,x1,xW2,f2,own2⟩:=Zf6 hlow xW own (n,s) Ya
      simp only at f1 z1 f2
      by_cases c2:p.1=n
      ·have d2:(p.1:Int)=(n:Int):=by omega
       have st:ZaD n s (po,false) p=(po++[(n,s)],true):=by simp [ZaD,c2]
       rw [st] at sn
       simp +decide only [go_sem,WR,WS,hsz,e0,e1,e7,e12,e13,e14,gW,hil,c0,Int.toNat_natCast,q3,q4,d1,eq_true d2,f1,z1,f2,gw xW2,rd xW2,i1]
       exact next (i+1,.slice (some ⟨W1.size,0,none⟩) (po.length+1) big) _ _ ⟨by simp only;omega,Yb,xW2,Ye,Yh,Yi,Yb,by rw [sn];simp +decide only [go_sem,WR,WS,hsz],Yb,by rw [sn];simpa using own2⟩ Yk
      ·have d2:¬ (p.1:Int)=(n:Int):=by omega
       have st:ZaD n s (po,false) p=(po++[(n,s)]++[p],true):=by simp [ZaD,c2,show n≤p.1 by omega]
       rw [st] at sn
       obtain ⟨W3,W4,f3,z3,x3,xW4,f4,own4⟩:=Zf6 hlow xW2 own2 p Yl
       simp +decide only [go_sem,WR,WS,hsz,e0,e1,e7,e12,e13,e14,gW,hil,c0,Int.toNat_natCast,q3,q4,q6,q7,d1,d2,f1,z1,f2,gw xW2,rd xW2,f3,z3,f4,i1]
       exact next (i+1,.slice (some ⟨W3.size,0,none⟩) ((po++[(n,s)]).length+1) big) _ _ ⟨by simp only;omega,Yb,xW4,Ye,Yh,Yi,Yb,by rw [sn];simp +decide only [go_sem,WR,WS,hsz],Yb,by rw [sn];simpa using own4⟩ Yk
  ·have hin:i=m:=by omega
   rw [List.take_of_length_le Ya] at own e13
   have hall':=hall
   cases hpd:(putF n s x.rows).2 with
   | true =>
     rw [hpd,if_pos rfl] at hall'
     rw [hpd] at e13
     rw [hall'] at own
     simp +decide only [go_sem,WS]
     (rw [WR];simp +decide only [go_sem,WS,hsz,e0,e14,gW,hil])
     (rw [WR];simp +decide only [go_sem,WS,hsz,e13])
     exact cont u _ _ ⟨Yb,xW,Ye,Yh,Yw,own⟩
   | false =>
     rw [hpd,if_neg Yp] at hall'
     rw [hpd] at e13
     obtain ⟨W1,W2,f1,z1,x1,xW2,f2,own2⟩:=Zf6 hlow xW own (n,s) (by rw [List.take_of_length_le Ya] at hpl;omega)
     rw [hall'] at own2
     simp only at f1 z1 f2
     simp +decide only [go_sem,WS]
     (rw [WR];simp +decide only [go_sem,WS,hsz,e0,e14,gW,hil])
     (rw [WR];simp +decide only [go_sem,WS,hsz,e13])
     (rw [WR];simp +decide only [go_sem,WS,hsz,e1,e7,e12,f1,z1,f2])
     exact cont _ _ _ ⟨Yb,xW2,Ye,Yh,Yb,own2⟩
 rintro u e W ⟨hsz,xW,e0,e1,e12,own⟩
 obtain ⟨a',c',rfl⟩:=own.shape
 have gW:W.get q=_:=(xW.2 q E.hq).trans gq
 obtain ⟨W1,f1⟩:∃ W1,W.set q (.cells [.slice a' R.length c',.int .i64 (x.nx:Int)] 2)=W1:=⟨_,rfl⟩
 have g1:W1.get q= .cells [.slice a' R.length c',.int .i64 (x.nx:Int)] 2:=by rw [← f1,Heap.Zae,if_pos rfl]
 have hqs:=E.hq
 have hWs:=xW.1
 have fin:∀ w:Heap,w.size=W.size→w.get q= .cells [.slice a' R.length c',.int .i64 ((min (n+ZcI n) 9999999:Nat):Int)] 2→(∀ c,c≠q→w.get c=W.get c)→Value.bool true= .bool (some (⟨R,min (n+ZcI n) 9999999⟩:EdT)).isSome∧EQ w F q ((some (⟨R,min (n+ZcI n) 9999999⟩:EdT)).getD x)∧Frm (fun i=>i=q) h w:=by
  intro w k1 k2 k3
  have fr:Frm (fun b=>b=q∨F b) W w:=⟨by omega,fun c _ hc=>k3 c fun e=>hc (.inl e)⟩
  refine ⟨rfl,⟨by omega,a',c',k2,?_⟩,(Frm.ext xW).trans ⟨by omega,fun c _ hc=>k3 c hc⟩⟩
  refine (SlF.frm fr (ZcT own fun b hb hc=> ?_)).weaken fun b _ hb=> .inr hb
  rcases hc with rfl | hc
  ·omega
  ·have:=hF b hc
   omega
 (rw [WR];simp +decide only [go_sem,WS,hsz,e0,e12,gW,lq,f1])
 (rw [WR];simp +decide only [go_sem,WS,hsz])
 refine Zah (α:=Nat) (fun s e w=>ZkZ n s∧e.size=133∧W1=w∧e.get 0= .pointer (some ⟨q,0,none⟩)∧e.get 1= .int .i64 (n:Int)∧e.get 15= .int .i64 ((s:Nat):Int)) (fun s=>s) 10000 ?_ ?_
 ·exact ⟨ZhK n,Yb,rfl,Ye,Yh,by simp +decide only [go_sem,hsz];rfl⟩
 rintro k e w ⟨J,hsz,hw,e0,e1,e15⟩ next
 subst hw
 have s0:0 < k∧k≤10000:=by have:=J.1;omega
 have z:¬ ((k:Nat):Int)=0:=Ya
 by_cases c:n%k=0
 ·have cz:((n%k:Nat):Int)=0:=by omega
  have hk:=Editing.step_end J c
  have i1:IntKind.i64.wrap ((n:Int)+((k:Nat):Int))=((n+k:Nat):Int):=Yd
  obtain ⟨W2,f2⟩:∃ W2,W1.set q (.cells [.slice a' R.length c',.int .i64 ((n+k:Nat):Int)] 2)=W2:=⟨_,rfl⟩
  have g2:W2.get q= .cells [.slice a' R.length c',.int .i64 ((n+k:Nat):Int)] 2:=by rw [← f2,Heap.Zae,if_pos rfl]
  by_cases c9:(9999999:Int) < ((n+k:Nat):Int)
  ·obtain ⟨W3,f3⟩:∃ W3,W2.set q (.cells [.slice a' R.length c',.int .i64 9999999] 2)=W3:=⟨_,rfl⟩
   simp +decide only [go_sem,WR,WS,hsz,e0,e1,e15,Za5 z,E7.wr,cz,i1,g1,lq,f2,g2,c9,f3]
   refine fin _ (by rw [← f3,← f2,← f1];rfl) ?_ fun c hc=>by rw [← f3,← f2,← f1,Heap.Zae,if_neg hc,Heap.Zae,if_neg hc,Heap.Zae,if_neg hc]
   rw [← f3,Heap.Zae,if_pos rfl]
   have:min (n+ZcI n) 9999999=9999999:=by rw [← hk];omega
   rw [this]
   rfl
  ·simp +decide only [go_sem,WR,WS,hsz,e0,e1,e15,Za5 z,E7.wr,cz,i1,g1,lq,f2,g2,c9]
   refine fin _ (by rw [← f2,← f1];rfl) ?_ fun c hc=>by rw [← f2,← f1,Heap.Zae,if_neg hc,Heap.Zae,if_neg hc]
   have:min (n+ZcI n) 9999999=n+k:=by rw [← hk];omega
   rw [this]
   exact g2
 ·have cz:¬ ((n%k:Nat):Int)=0:=by omega
  have qq:=wq (n:=k) (p:=10) Ya Ya
  have e10:((10:Nat):Int)=10:=rfl
  rw [e10] at qq
  obtain ⟨J2,lt⟩:=Editing.ZhL J c
  simp +decide only [go_sem,WR,WS,hsz,e0,e1,e15,Za5 z,E7.wr,cz,qq]
  exact next (k / 10) _ _ ⟨J2,Yb,rfl,Ye,Yh,Yb⟩ lt
end Go.Proofs.YtachkofbmodnnaaGreat.D12
namespace Go.Proofs.YtachkofbmodnnaaGreat.D13
open Go Go.Im Go.Im.Limbs Go.Im.Lexing Go.Im.Heads Go.Im.Editing Go.Im.Defn Go.Proofs Go.RowKit Hd H2 H4 H5 H7 R9 D4 E2 E5 E7 D5 D8 D9 D12
set_option maxRecDepth 100000
theorem Zqv {low:Nat} {h w:Heap} (hlow:low≤h.size) (x:Ext h w) {a:Option Addr} {c n k:Nat} {xs new:List Value} (H:Own h.size w 2 (.slice a n c) n xs) (hn:new.length=k*2) (hk:n+k≤100000) :
  ∃ a' c' w',iapp low w 2 24 (.slice a n c) k (some new)=some (.slice a' (n+k) c',w')∧Own h.size w' 2 (.slice a' (n+k) c') (n+k) (xs++new)∧Ext h w':=by
 by_cases h0:k=0
 ·subst h0
  have:new=[]:=List.eq_nil_of_length_eq_zero Ya
  subst this
  refine ⟨a,c,w,?_,by simpa using H,x⟩
  simp only [iapp]
  rw [if_neg Ya,if_pos trivial]
  rfl
 ·obtain ⟨w3,f3,o3,hs3,x3⟩:=Za6 (low:=low) (bytes:=24) (k:=k) (new:=new) hlow x H Ya Ya hn Ya Ya
  exact ⟨_,_,w3,f3,o3,x3⟩
theorem ZmA {low:Nat} {h:Heap} (hlow:low≤h.size) {F:Nat→Prop} (hF:∀ b,F b→b < h.size) {q:Nat} (lq:low≤q) {x:EdT} (E:EQ h F q x) (I:Inv x) {n:Nat} :
  Does K low 78 #[.pointer (some ⟨q,0,none⟩),.int .i64 (n:Int)] h fun r w=>r= .bool (Zb3 x n).isSome∧EQ w F q ((Zb3 x n).getD x)∧Frm (fun i=>i=q) h w:=by
 refine Does.intro rfl Yf Tryz.func78 rfl ?_
 have hfew:=I.few
 obtain ⟨ra,rc,gq,sl⟩:=E.ed
 have h0r:0 < x.rows.length:=by
  obtain ⟨t,ht⟩:=ZbA.1 I.zero
  exact List.length_pos_of_mem ht
 obtain ⟨rb,ro,rs,rfl,hrb,_⟩:=sl.1.at (i:=0) h0r
 have no:Zb3 x n=none→Value.bool false= .bool (Zb3 x n).isSome∧EQ h F q ((Zb3 x n).getD x)∧Frm (fun i=>i=q) h h:=by
  intro hl
  rw [hl]
  exact ⟨rfl,E,Frm.refl _ _⟩
 simp +decide only [go_sem,WR,WS]
 refine Zaa Kok hlow (Zo4 x I n h E.ev) fun r w4 x4 hr=> ?_
 obtain ⟨hw,rfl⟩:=hr
 subst hw
 by_cases h0:(n:Int)=0
 ·simp +decide only [go_sem,WR,WS,eq_true h0]
  exact no (by rw [Zb3,if_pos (.inl Ya)])
 rcases Zbw (n:=n) I.rise with ⟨k1,k2⟩ | ⟨k1,t,k2⟩
 ·simp only [k1,Bool.false_eq_true,if_false]
  simp +decide only [go_sem,WR,WS,h0]
  exact no (by rw [Zb3,if_pos (.inr k1)])
 have hgo:Zb3 x n=some ⟨less n x.rows++more n x.rows,n⟩:=by rw [Zb3,if_neg (by rw [k1];simp;omega)]
 rw [hgo]
 have kl:=congrArg List.length k2
 rw [List.length_append,List.length_cons] at kl
 obtain ⟨i,hi⟩:∃ i,i=(less n x.rows).length:=⟨_,rfl⟩
 simp only [k1,if_true]
 rw [← hi] at kl ⊢
 have hi0:0 < i:=by
  obtain ⟨u,hu⟩:=ZbA.1 I.zero
  rw [hi]
  exact List.length_pos_of_mem (List.mem_filter.2 ⟨hu,by simp;omega⟩)
 have c1:¬ (i:Int) < 0:=Ya
 have i1:IntKind.i64.wrap ((i:Int)+1)=((i+1:Nat):Int):=Yd
 obtain ⟨w1,f1,x1,hs1,z1⟩:=lay1 h (.cells [] 2)
 obtain ⟨a1,d1,e1,s1⟩:=Sl.cut x1 Ya sl.1 (lo:=none) (hi:=some (.int .i64 (i:Int))) (l:=0) (u:=i) rfl Yz Ya Ya
 have t1:((erv x.rows).drop (0*2)).take ((i - 0)*2)=erv (less n x.rows):=by
  rw [Nat.zero_mul,List.drop_zero,Nat.sub_zero,congrArg erv k2,ZaM,hi]
  exact List.take_left' (Zat _)
 rw [t1] at s1
 rw [Nat.sub_zero] at s1 e1
 obtain ⟨w2,f2,x2,hs2,z2⟩:=lay1 w1 (.cells (erv (less n x.rows)) 2)
 have g3:=Zhv (low:=low) (bytes:=24) (new:=erv (less n x.rows)) (k:=i) z1 Ya hi0 (by rw [Zat,hi]) Ya Ya
 rw [f2] at g3
 have own2:Own h.size w2 2 (.slice (some ⟨w1.size,0,none⟩) i big) i (erv (less n x.rows)):= .inr ⟨w1.size,rfl,x1.1,by omega,z2,by rw [Zat,hi]⟩
 obtain ⟨a2,d2,e2,s2⟩:=Sl.cut (x1.trans x2) Ya sl.1 (lo:=some (.int .i64 ((i+1:Nat):Int))) (hi:=none) (l:=i+1) (u:=x.rows.length) YF rfl Ya Ya
 have t2:((erv x.rows).drop ((i+1)*2)).take ((x.rows.length - (i+1))*2)=erv (more n x.rows):=by
  have:(erv x.rows).drop ((i+1)*2)=erv (more n x.rows):=by
   rw [congrArg erv k2,ZaM,Zej]
   have:erv (less n x.rows)++Value.int .i64 (((n,t):Nat × ByteArray).1:Int)::Value.string ((n,t):Nat × ByteArray).2::erv (more n x.rows)=(erv (less n x.rows)++[Value.int .i64 (n:Int),Value.string t])++erv (more n x.rows):=by simp
   rw [this]
   exact List.drop_left' (by rw [List.length_append,Zat,← hi];simp;omega)
  rw [this]
  exact List.take_of_length_le (by rw [Zat];omega)
 rw [t2] at s2
 obtain ⟨a3,d3,w3,f3,own3,x3⟩:=Zqv hlow (x1.trans x2) own2 (k:=x.rows.length - (i+1)) (new:=erv (more n x.rows)) (by rw [Zat];omega) Ya
 have is1:=(s1.ext x1).isl
 have is2:=(s2.ext (x1.trans x2)).isl
 have gq1:w1.get q=_:=(x1.2 q E.hq).trans gq
 have gq2:w2.get q=_:=((x1.trans x2).2 q E.hq).trans gq
 have gq3:w3.get q=_:=(x3.2 q E.hq).trans gq
 simp +decide only [go_sem,WR,WS,h0,c1,f1,gq1,e1,is1,g3,gq2,i1,e2,is2,f3,gq3,lq]
 refine Zhy ?_ ?_
 ·have q1:=E.hq
  simp +decide only [go_sem,WR,WS]
  simp [q1,hrb]
  omega
 obtain ⟨w4,f4⟩:∃ w4,w3.set q (.cells [.slice a3 (i+(x.rows.length - (i+1))) d3,.int .i64 (x.nx:Int)] 2)=w4:=⟨_,rfl⟩
 have gq4:w4.get q= .cells [.slice a3 (i+(x.rows.length - (i+1))) d3,.int .i64 (x.nx:Int)] 2:=by rw [← f4,Heap.Zae,if_pos rfl]
 rw [f4]
 obtain ⟨w5,f5⟩:∃ w5,w4.set q (.cells [.slice a3 (i+(x.rows.length - (i+1))) d3,.int .i64 (n:Int)] 2)=w5:=⟨_,rfl⟩
 simp +decide only [go_sem,WS]
 (rw [WR];simp +decide only [go_sem,WS,gq4,lq,f5])
 (rw [WR];simp +decide only [go_sem,WS])
 have hqs:=E.hq
 have hws:=x3.1
 have rl:(less n x.rows++more n x.rows).length=i+(x.rows.length - (i+1)):=by rw [List.length_append,← hi];omega
 rw [← ZaM] at own3
 have fr:Frm (fun b=>b=q∨F b) w3 w5:=by rw [← f5,← f4];exact Frm.trans (Frm.set (.inl rfl) _) (Frm.set (.inl rfl) _)
 refine ⟨rfl,⟨by rw [← f5,← f4];simp only [Heap.size_set];omega,a3,d3,?_,?_⟩,(Frm.ext x3).trans (by rw [← f5,← f4];exact Frm.trans (Frm.set (F:=fun i=>i=q) rfl _) (Frm.set (F:=fun i=>i=q) rfl _))⟩
 ·rw [← f5,Heap.Zae,if_pos rfl]
  simp only [Option.getD_some,rl]
 ·simp only [Option.getD_some,rl]
  refine (SlF.frm fr (ZcT own3 fun b hb hc=> ?_)).weaken fun b _ hb=> .inr hb
  rcases hc with rfl | hc
  ·omega
  ·have:=hF b hc
   omega
end Go.Proofs.YtachkofbmodnnaaGreat.D13
