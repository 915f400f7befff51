/- Proved here: parts of the way to BEditPlays (BD14 BD15 BD17 BD18 BD19 BL29); no condition beyond those that each theorem names. -/
import Derived.Test.YtachkofbmodnnaaGreatP25
import Derived.Test.YtachkofbmodnnaaGreatP4
import Derived.Deep.Slices
import Derived.SliceStrings
import Derived.ChangeSame
import Derived.ChangeSlices
import Derived.Lib.SmallJoins
set_option linter.unusedSimpArgs false
set_option linter.unusedVariables false
namespace Go.Proofs.YtachkofbmodnnaaGreat.D14
open Go Go.Im Go.Im.Limbs Go.Im.Lexing Go.Im.Heads Go.Im.Editing Go.Im.Defn Go.Proofs Go.RowKit Hd H2 H4 H5 H7 R9 D4 E2 E5 E7 D5 D8 D9 D12 D13
set_option maxRecDepth 100000
def Zhz (h:Heap) (F:Nat→Prop) (q:Nat) (x:EdT) (m:Option (List ByteArray × EdT)) (r:Value) (w:Heap):Prop :=
 ∃ v,r= .tuple #[v,.bool m.isSome]∧EQ w F q ((m.map (·.2)).getD x)∧Frm (fun i=>i=q) h w∧∀ out y,m=some (out,y)→∃ a c,v= .slice a out.length c∧SlF w (fun i=>i < h.size) 1 a out.length c (sv out)
theorem EQ.ext {w w':Heap} (k:Ext w w') {F:Nat→Prop} {q:Nat} {x:EdT} (E:EQ w F q x):EQ w' F q x:=by
 obtain ⟨h,a,c,h1,h2⟩:=E
 exact ⟨by have:=k.1;omega,a,c,(k.2 q h).trans h1,h2.frm (Frm.ext k)⟩
theorem Zb5 {w:Heap} {F:Nat→Prop}:SlF w F 1 none 0 0 (sv []):=⟨Sl.nil w 1,fun h=>by omega⟩
theorem Zhz.no {h:Heap} {F:Nat→Prop} {q:Nat} {x:EdT} (E:EQ h F q x) {w:Heap} (xw:Ext h w) (v:Value) {m:Option (List ByteArray × EdT)} (hm:m=none):Zhz h F q x m (.tuple #[v,.bool false]) w:=by
 subst hm
 exact ⟨v,rfl,EQ.ext xw E,Frm.ext xw,fun _ _ e=>by cases e⟩
set_option maxHeartbeats 1000000 in
theorem ZgW {low:Nat} {h:Heap} (hlow:low≤h.size) {F:Nat→Prop} (hF:∀ b,F b→b < h.size) {q:Nat} (hFq:F q) (lq:low≤q) {x:EdT} (E:EQ h F q x) (I:Inv x) {l tx:List Int} {lv tv:Value} (t:Ln h lv l) (t2:Ln h tv tx) (htr:trimS tx=tx) (hm:l.length≤100000) (hm2:tx.length≤100000) :
  Does K low 50 #[.pointer (some ⟨q,0,none⟩),lv,tv] h (Zhz h F q x (cmdS x l tx)):=by
 obtain ⟨la,lc,rfl⟩:=t.open
 obtain ⟨ta,tc,rfl⟩:=t2.open
 have V:=E.ev
 obtain ⟨ra,rc,gq,sl⟩:=E.ed
 refine Does.intro rfl Yf Tryz.func50 rfl ?_
 by_cases hl0:((l.length:Nat):Int)=0
 ·have hl:l=[]:=List.eq_nil_of_length_eq_zero Ya
  have:cmdS x l tx=none:=by
   rw [hl]
   rfl
  simp +decide only [go_sem,WR,WS,eq_true hl0]
  exact Zhz.no E (Ext.refl h) _ this
 have hpos:0 < l.length:=Ya
 have lne:l≠[]:=fun e=>by rw [e] at hpos;simp at hpos
 obtain ⟨c0,hc0⟩:∃ c,l[0]? =some c:=⟨_,List.getElem?_eq_getElem hpos⟩
 obtain ⟨c9,hc9⟩:∃ c,l[l.length - 1]? =some c:=⟨_,List.getElem?_eq_getElem Ya⟩
 have hhd:l.head? =some c0:=by rw [← hc0];cases l<;>rfl
 have hlast:l.getLast? =some c9:=by rw [List.getLast?_eq_getElem?];exact hc9
 obtain ⟨lb,lo,cs,hq,q2,q3,q4⟩:=t.one hc0
 obtain ⟨lb',lo',cs',hq',_,q3',q5⟩:=t.one hc9
 cases hq
 cases hq'
 rw [q3] at q3'
 cases q3'
 rw [Nat.add_zero] at q4
 have i1:IntKind.i64.wrap (((l.length:Nat):Int) - 1)=((l.length - 1:Nat):Int):=Yd
 have c00:(0:Int) < ((l.length:Nat):Int):=Ya
 have c91:(0:Int)≤((l.length - 1:Nat):Int):=Ya
 have c92:((l.length - 1:Nat):Int) < ((l.length:Nat):Int):=Ya
 have nxt:∀ n:Nat,∃ w2,h.set q (.cells [.slice ra x.rows.length rc,.int .i64 (n:Int)] 2)=w2∧w2.size=h.size∧EQ w2 F q { x with nx:=n }∧Frm (fun i=>i=q) h w2:=by
  intro n
  have fr:Frm F h (h.set q (.cells [.slice ra x.rows.length rc,.int .i64 (n:Int)] 2)):=Frm.set hFq _
  exact ⟨_,rfl,rfl,⟨E.hq,ra,rc,by rw [Heap.Zae,if_pos rfl],sl.frm fr⟩,Frm.set (F:=fun i=>i=q) rfl _⟩
 simp +decide only [go_sem,WR,WS,hl0]
 refine Zaa Kok hlow (Zck l h t Ya) fun r w1 x1 hr=> ?_
 obtain ⟨hw,z,rfl,hz,_,_⟩:=hr
 have hw:=hw.symm
 subst hw
 simp +decide only [go_sem,WS]
 cases hrd:ZaY l with
 | some n =>
   have hz:=hz n hrd
   subst hz
   have hn:=ZcB hrd
   by_cases ht:tx=[]
   ·have hcm:cmdS x l tx=some ([],{ x with nx:=n }):=by
     simp only [cmdS,hrd]
     rw [if_pos ht]
    have tl:¬ (0:Int) < ((tx.length:Nat):Int):=by rw [ht];simp
    obtain ⟨w2,f2,s2,E2,fr2⟩:=nxt n
    simp +decide only [go_sem,WR,WS,Option.isSome_some,tl,gq,lq,f2]
    rw [hcm]
    refine ⟨_,rfl,E2,fr2,fun out y hy=> ?_⟩
    cases hy
    exact ⟨_,_,rfl,Zb5⟩
   ·have hcm:cmdS x l tx=(setS x n tx).map fun y=>([],y):=by
     simp only [cmdS,hrd]
     rw [if_neg ht]
    have tl:(0:Int) < ((tx.length:Nat):Int):=by
     have:=List.length_pos_iff.2 ht
     omega
    (rw [WR];simp +decide only [go_sem,WS,Option.isSome_some,tl])
    (rw [WR];simp +decide only [go_sem,WS])
    refine ZaQ rfl (ZjK hlow hF lq E I hn t2 htr Ya) fun r w3 hr=> ?_
    obtain ⟨rfl,E3,fr⟩:=hr
    simp +decide only [go_sem,WS]
    rw [hcm]
    refine ⟨.slice none 0 0,?_,?_,fr,fun out y hy=> ?_⟩
    ·cases setS x n tx<;>rfl
    ·cases hs:setS x n tx with
     | none=>rw [hs] at E3;exact E3
     | some y=>rw [hs] at E3;exact E3
    ·obtain ⟨z,_,hz⟩:=Option.map_eq_some_iff.1 hy
     cases hz
     exact ⟨_,_,rfl,Zb5⟩
 | none =>
   by_cases ht:tx=[]
   case neg =>
    have hcm:cmdS x l tx=none:=by
     simp only [cmdS,hrd]
     rw [if_pos (.inr ht)]
    have tl:(0:Int) < ((tx.length:Nat):Int):=by
     have:=List.length_pos_iff.2 ht
     omega
    simp +decide only [go_sem,WR,WS,Option.isSome_none,tl]
    exact Zhz.no E (Ext.refl h) _ hcm
   have tl:¬ (0:Int) < ((tx.length:Nat):Int):=by rw [ht];simp
   have hor:¬ (l=[]∨tx≠[]):=by simp [lne,ht]
   have hcm:cmdS x l tx=if l.head? =some 9109 then (if l.length=1 then some (Zba x.rows 0 9999999,x) else (ZaY (l.drop 1)).map fun (n:Nat)=>(Zba x.rows (n:Int) 9999999,x))
     else if l.getLast? =some 9109 then (ZaY l.dropLast).map fun (n:Nat)=>(Zba x.rows (n:Int) (n:Int),{ x with nx:=n })
     else if l.head? =some 8710 then (ZaY (l.drop 1)).bind fun n=>(Zb3 x n).map fun y=>([],y)
     else none:=by simp only [cmdS,hrd];rw [if_neg hor]
   rw [hhd,hlast] at hcm
   (rw [WR];simp +decide only [go_sem,WS,Option.isSome_none])
   (rw [WR];simp +decide only [go_sem,WS])
   (rw [WR];simp +decide only [go_sem,WS,tl])
   (rw [WR];simp +decide only [go_sem,WS,i1])
   by_cases h1:c0=9109
   ·rw [if_pos (by rw [h1])] at hcm
    by_cases h4:((l.length - 1:Nat):Int)=0
    ·rw [if_pos Ya] at hcm
     (rw [WR];simp +decide only [go_sem,WS,c00,Int.toNat_natCast,q3,q4,h1,eq_true h4])
     (rw [WR];simp +decide only [go_sem,WS])
     refine Zaa Kok hlow (ZfB x I 0 9999999 h V) fun r w1 x1 hr=> ?_
     obtain ⟨a',c',rfl⟩:=hr.shape
     simp +decide only [go_sem,WS]
     rw [hcm]
     refine ⟨_,rfl,EQ.ext x1 E,Frm.ext x1,fun out y hy=> ?_⟩
     cases hy
     exact ⟨_,_,rfl,ZcT hr fun c hc=>by omega⟩
    ·rw [if_neg Ya] at hcm
     (rw [WR];simp +decide only [go_sem,WS,c00,Int.toNat_natCast,q3,q4,h1,h4])
     (rw [WR];simp +decide only [go_sem,WS,c00,Int.toNat_natCast,q3,q4,h1])
     obtain ⟨a1,c1,e1,t1⟩:=t.cut (lo:=some (.int .i64 1)) (hi:=none) (x:=1) (y:=l.length) Yz rfl Ya (Nat.le_refl _)
     rw [List.take_of_length_le Yp] at t1
     have ll:(l.drop 1).length=l.length - 1:=Yp
     (rw [WR];simp +decide only [go_sem,WS,e1])
     rw [← ll] at t1 ⊢
     refine Zaa Kok hlow (Zck (l.drop 1) h t1 Ya) fun r w1 x1 hr=> ?_
     obtain ⟨hw,z,rfl,hz,_,_⟩:=hr
     have hw:=hw.symm
     subst hw
     simp +decide only [go_sem,WS]
     cases hrd:ZaY (l.drop 1) with
     | none =>
       simp +decide only [go_sem,WR,WS,Option.isSome_none]
       rw [hcm,hrd]
       exact Zhz.no E (Ext.refl h) _ rfl
     | some n =>
       have hz:=hz n hrd
       subst hz
       (rw [WR];simp +decide only [go_sem,WS,Option.isSome_some])
       (rw [WR];simp +decide only [go_sem,WS])
       refine Zaa Kok hlow (ZfB x I n 9999999 h V) fun r w1 x1 hr=> ?_
       obtain ⟨a',c',rfl⟩:=hr.shape
       simp +decide only [go_sem,WS]
       rw [hcm,hrd]
       refine ⟨_,rfl,EQ.ext x1 E,Frm.ext x1,fun out y hy=> ?_⟩
       cases hy
       exact ⟨_,_,rfl,ZcT hr fun c hc=>by omega⟩
   rw [if_neg (by simpa using h1)] at hcm
   (rw [WR];simp +decide only [go_sem,WS,c00,Int.toNat_natCast,q3,q4,h1])
   (rw [WR];simp +decide only [go_sem,WS,c00,Int.toNat_natCast,q3,q4,h1])
   by_cases h2:c9=9109
   ·rw [if_pos (by rw [h2])] at hcm
    (rw [WR];simp +decide only [go_sem,WS,c91,c92,Int.toNat_natCast,q3,q5,h2])
    obtain ⟨a1,c1,e1,t1⟩:=t.cut (lo:=none) (hi:=some (.int .i64 ((l.length - 1:Nat):Int))) (x:=0) (y:=l.length - 1) rfl Yz Ya Ya
    rw [Nat.sub_zero] at e1 t1
    rw [List.drop_zero,← List.dropLast_eq_take] at t1
    have ll:l.dropLast.length=l.length - 1:=Yp
    (rw [WR];simp +decide only [go_sem,WS,e1])
    rw [← ll] at t1 ⊢
    refine Zaa Kok hlow (Zck l.dropLast h t1 Ya) fun r w1 x1 hr=> ?_
    obtain ⟨hw,z,rfl,hz,_,_⟩:=hr
    have hw:=hw.symm
    subst hw
    simp +decide only [go_sem,WS]
    cases hrd:ZaY l.dropLast with
    | none =>
      simp +decide only [go_sem,WR,WS,Option.isSome_none]
      rw [hcm,hrd]
      exact Zhz.no E (Ext.refl h) _ rfl
    | some n =>
      have hz:=hz n hrd
      subst hz
      obtain ⟨w2,f2,s2,E2,fr2⟩:=nxt n
      (rw [WR];simp +decide only [go_sem,WS,Option.isSome_some])
      (rw [WR];simp +decide only [go_sem,WS,gq,lq,f2])
      (rw [WR];simp +decide only [go_sem,WS])
      refine Zaa Kok Ya (ZfB { x with nx:=n } (I.at (ZcB hrd)) n n w2 E2.ev) fun r w1 x1 hr=> ?_
      obtain ⟨a',c',rfl⟩:=hr.shape
      simp +decide only [go_sem,WS]
      rw [hcm,hrd]
      refine ⟨_,rfl,EQ.ext x1 E2,fr2.trans (Frm.ext x1),fun out y hy=> ?_⟩
      cases hy
      exact ⟨_,_,rfl,ZcT hr fun c hc=>by omega⟩
   rw [if_neg (by simpa using h2)] at hcm
   (rw [WR];simp +decide only [go_sem,WS,c91,c92,Int.toNat_natCast,q3,q5,h2])
   by_cases h3:c0=8710
   ·rw [if_pos (by rw [h3])] at hcm
    (rw [WR];simp +decide only [go_sem,WS,c00,Int.toNat_natCast,q3,q4,h3])
    obtain ⟨a1,c1,e1,t1⟩:=t.cut (lo:=some (.int .i64 1)) (hi:=none) (x:=1) (y:=l.length) Yz rfl Ya (Nat.le_refl _)
    rw [List.take_of_length_le Yp] at t1
    have ll:(l.drop 1).length=l.length - 1:=Yp
    (rw [WR];simp +decide only [go_sem,WS,e1])
    rw [← ll] at t1 ⊢
    refine Zaa Kok hlow (Zck (l.drop 1) h t1 Ya) fun r w1 x1 hr=> ?_
    obtain ⟨hw,z,rfl,hz,_,_⟩:=hr
    have hw:=hw.symm
    subst hw
    simp +decide only [go_sem,WS]
    cases hrd:ZaY (l.drop 1) with
    | none =>
      simp +decide only [go_sem,WR,WS,Option.isSome_none]
      rw [hcm,hrd]
      exact Zhz.no E (Ext.refl h) _ rfl
    | some n =>
      have hz:=hz n hrd
      subst hz
      rw [hrd,Option.bind_some] at hcm
      (rw [WR];simp +decide only [go_sem,WS,Option.isSome_some])
      refine ZaQ rfl (ZmA hlow hF lq E I (n:=n)) fun r w3 hr=> ?_
      obtain ⟨rfl,E3,fr⟩:=hr
      simp +decide only [go_sem,WS,Option.isSome_some]
      rw [hcm]
      refine ⟨.slice none 0 0,?_,?_,fr,fun out y hy=> ?_⟩
      ·cases Zb3 x n<;>rfl
      ·cases hs:Zb3 x n with
       | none=>rw [hs] at E3;exact E3
       | some y=>rw [hs] at E3;exact E3
      ·obtain ⟨z,_,hz⟩:=Option.map_eq_some_iff.1 hy
       cases hz
       exact ⟨_,_,rfl,Zb5⟩
   rw [if_neg (by simpa using h3)] at hcm
   simp +decide only [go_sem,WR,WS,c00,Int.toNat_natCast,q3,q4,h3]
   exact Zhz.no E (Ext.refl h) _ hcm
end Go.Proofs.YtachkofbmodnnaaGreat.D14
namespace Go.Proofs.YtachkofbmodnnaaGreat.D15
open Go Go.Im Go.Im.Limbs Go.Im.Lexing Go.Im.Heads Go.Im.Editing Go.Im.Defn Go.Proofs Go.RowKit Hd H2 H4 H5 E2 E5 E7 D5 D8 D9 D12 D13 D14
set_option maxRecDepth 100000
def RDoQ (h:Heap) (F:Nat→Prop) (q:Nat) (m:List ByteArray × Bool × Int × EdT) (r:Value) (w:Heap):Prop :=
 ∃ a c,r= .tuple #[.slice a m.1.length c,.bool m.2.1,.int .i64 m.2.2.1]∧EQ w F q m.2.2.2∧Frm (fun i=>i=q) h w∧SlF w (fun i=>i < h.size) 1 a m.1.length c (sv m.1)
theorem ZnB {low:Nat} {h:Heap} (hlow:low≤h.size) {F:Nat→Prop} (hF:∀ b,F b→b < h.size) {q:Nat} (hFq:F q) (lq:low≤q) {x:EdT} (E:EQ h F q x) (I:Inv x) {l:List Int} {lv:Value} (t:Ln h lv l) (hm:l.length≤10000) :
  Does K low 22 #[.pointer (some ⟨q,0,none⟩),lv] h (RDoQ h F q (doS x l)):=by
 obtain ⟨la,lc,rfl⟩:=t.open
 obtain ⟨ra,rc,gq,sl⟩:=E.ed
 refine Does.intro rfl Yf Tryz.func22 rfl ?_
 simp +decide only [go_sem,WR,WS]
 refine Zaa Kok hlow (E3.ZlB l h t Ya) fun r w0 x0 hr=> ?_
 obtain ⟨hw,mv,rfl,tm⟩:=hr
 have hw:=hw.symm
 subst hw
 obtain ⟨m,hmm⟩:∃ m,m=(ZbC l).1:=⟨_,rfl⟩
 obtain ⟨en,hen⟩:∃ en,en=(ZbC l).2:=⟨_,rfl⟩
 have htr:=Ziw l
 have hml:m.length≤10000:=by rw [hmm];exact Nat.le_trans (Zj7 l) hm
 have hdo:doS x l=if m=[] then ([],en,(0:Int),x) else if m.head? =some 91 then match (idx m 93).bind fun i=>cmdS x (trimS ((m.take i).drop 1)) (trimS (m.drop (i+1))) with
   | some (out,y)=>(out,en,(0:Int),y)
   | none=>([],false,(28:Int),x)
  else match setS x x.nx m with
   | some y=>([],en,(0:Int),y)
   | none=>([],false,(28:Int),x):=by rw [hmm,hen];rfl
 rw [← hmm] at tm htr
 rw [← hen]
 generalize hD:doS x l=D at hdo ⊢
 clear hD
 obtain ⟨ma,mc,rfl⟩:=tm.open
 have refuse:D=([],false,28,x)→∀ {w:Heap},Ext h w→RDoQ h F q D (.tuple #[.slice none 0 0,.bool false,.int .i64 28]) w:=by
  rintro rfl w xw
  exact ⟨none,0,rfl,EQ.ext xw E,Frm.ext xw,Zb5⟩
 simp +decide only [go_sem,WS]
 by_cases hl0:((m.length:Nat):Int)=0
 ·have hm0:m=[]:=List.eq_nil_of_length_eq_zero Ya
  rw [if_pos hm0] at hdo
  simp +decide only [go_sem,WR,WS,eq_true hl0]
  subst hdo
  exact ⟨none,0,rfl,E,Frm.refl _ _,Zb5⟩
 have hpos:0 < m.length:=Ya
 rw [if_neg (fun e=>by rw [e] at hpos;simp at hpos)] at hdo
 obtain ⟨c0,hc0⟩:∃ c,m[0]? =some c:=⟨_,List.getElem?_eq_getElem hpos⟩
 have hhd:m.head? =some c0:=by rw [← hc0];cases m<;>rfl
 obtain ⟨lb,lo,cs,hq,q2,q3,q4⟩:=tm.one hc0
 cases hq
 rw [Nat.add_zero] at q4
 have c00:(0:Int) < ((m.length:Nat):Int):=Ya
 (rw [WR];simp +decide only [go_sem,WS,hl0])
 by_cases h1:c0=91
 ·rw [if_pos (by rw [hhd,h1])] at hdo
  (rw [WR];simp +decide only [go_sem,WS,c00,Int.toNat_natCast,q3,q4,h1])
  (rw [WR];simp +decide only [go_sem,WS])
  refine Zah (α:=Nat) (fun i e W=>i≤m.length∧e.size=61∧h=W∧e.get 0= .pointer (some ⟨q,0,none⟩)∧e.get 7= .slice (some ⟨lb,lo,none⟩) m.length big∧e.get 8= .bool en∧e.get 9= .int .i64 (i:Int)∧(93:Int) ∉ m.take i) (fun i=>m.length - i) 0 ?_ ?_
  ·exact ⟨Nat.zero_le _,Yc,rfl,Yc,Yc,Yc,by simp +decide only [go_sem];rfl,by simp⟩
  rintro i e W ⟨hi,hsz,hw,e0,e7,e8,e9,hni⟩ next
  subst hw
  by_cases hil:(i:Int) < ((m.length:Nat):Int)
  ·obtain ⟨c,hc⟩:∃ c,m[i]? =some c:=⟨_,List.getElem?_eq_getElem Ya⟩
   obtain ⟨lb',lo',cs',hq',_,q3',q5⟩:=tm.one hc
   cases hq'
   rw [q3] at q3'
   cases q3'
   have ci:(0:Int)≤(i:Int):=Ya
   have i1:IntKind.i64.wrap ((i:Int)+1)=((i+1:Nat):Int):=Yd
   by_cases h93:c=93
   ·rw [h93] at hc
    have hix:=Zms hc hni
    have hi1:1≤i:=by
     rcases Nat.eq_zero_or_pos i with h0 | h0
     ·rw [h0,hc0,h1] at hc
      cases hc
     ·exact h0
    rw [hix,Option.bind_some] at hdo
    obtain ⟨a1,c1,e1,t1⟩:=tm.cut (lo:=some (.int .i64 1)) (hi:=some (.int .i64 (i:Int))) (x:=1) (y:=i) Yz Yz hi1 Ya
    obtain ⟨a2,c2,e2,t2⟩:=tm.cut (lo:=some (.int .i64 ((i+1:Nat):Int))) (hi:=none) (x:=i+1) (y:=m.length) YF rfl Ya (Nat.le_refl _)
    rw [← List.drop_take] at t1
    rw [List.take_of_length_le Yp] at t2
    have l1:((m.take i).drop 1).length=i - 1:=Yl
    have l2:(m.drop (i+1)).length=m.length - (i+1):=Yp
    simp +decide only [go_sem,WR,WS,hsz,e0,e7,e9,hil,ci,Int.toNat_natCast,q3,q5,eq_true h93,e1]
    rw [← l1] at t1 ⊢
    refine Zaa Kok hlow (Zcj _ h t1 Ya) fun r w2 x2 hr=> ?_
    obtain ⟨hw,t3⟩:=hr
    have hw:=hw.symm
    subst hw
    simp +decide only [go_sem,WS,hsz,e7,e9,i1,e2]
    rw [← l2] at t2 ⊢
    refine Zaa Kok hlow (Zcj _ h t2 Ya) fun r w3 x3 hr=> ?_
    obtain ⟨hw,t4⟩:=hr
    have hw:=hw.symm
    subst hw
    obtain ⟨b1,d1,rfl⟩:=t3.open
    obtain ⟨b2,d2,rfl⟩:=t4.open
    simp +decide only [go_sem,WS,hsz,e0]
    have z1:=ZbK ((m.take i).drop 1)
    have z2:=ZbK (m.drop (i+1))
    refine ZaQ rfl (ZgW hlow hF hFq lq E I t3 t4 (ZcM _) Ya Ya) fun r w4 hr=> ?_
    obtain ⟨v,rfl,E4,fr,hv⟩:=hr
    simp +decide only [go_sem,WS,hsz]
    cases hcm:cmdS x (trimS ((m.take i).drop 1)) (trimS (m.drop (i+1))) with
    | none =>
      rw [hcm] at hdo E4
      subst hdo
      simp +decide only [go_sem,WR,WS,hsz,Option.isSome_none]
      exact ⟨none,0,rfl,E4,fr,Zb5⟩
    | some z =>
      obtain ⟨out,y⟩:=z
      rw [hcm] at hdo E4
      obtain ⟨oa,oc,rfl,so⟩:=hv out y hcm
      subst hdo
      simp +decide only [go_sem,WR,WS,hsz,e8,Option.isSome_some]
      exact ⟨oa,oc,rfl,E4,fr,so⟩
   ·simp +decide only [go_sem,WR,WS,hsz,e0,e7,e9,hil,ci,Int.toNat_natCast,q3,q5,h93,i1]
    exact next (i+1) _ _ ⟨by omega,Yb,rfl,Ye,Yi,Yu,Yb,fun hm=>by
     rw [List.take_add_one,hc,List.mem_append] at hm
     rcases hm with hm | hm
     ·exact hni hm
     ·simp at hm
      exact h93 hm.symm⟩ Ya
  ·have:idx m 93=none:=by
    rw [List.take_of_length_le Ya] at hni
    exact ZoM hni
   rw [this] at hdo
   simp +decide only [go_sem,WR,WS,hsz,e0,e7,e9,hil]
   exact refuse hdo (Ext.refl h)
 ·rw [if_neg (by rw [hhd];simpa using h1)] at hdo
  (rw [WR];simp +decide only [go_sem,WS,c00,Int.toNat_natCast,q3,q4,h1])
  (rw [WR];simp +decide only [go_sem,WS,gq])
  refine ZaQ rfl (ZjK hlow hF lq E I I.next tm htr Ya) fun r w3 hr=> ?_
  obtain ⟨rfl,E3,fr⟩:=hr
  simp +decide only [go_sem,WS]
  cases hs:setS x x.nx m with
  | none =>
    rw [hs] at hdo E3
    subst hdo
    simp +decide only [go_sem,WR,WS,Option.isSome_none]
    exact ⟨none,0,rfl,E3,fr,Zb5⟩
  | some y =>
    rw [hs] at hdo E3
    subst hdo
    simp +decide only [go_sem,WR,WS,Option.isSome_some]
    exact ⟨none,0,rfl,E3,fr,Zb5⟩
end Go.Proofs.YtachkofbmodnnaaGreat.D15
namespace Go.Im.Editing
open Go Go.Im Go.Im.Lexing Go.Im.Heads Go.Im.Defn
def Zdl (rows:List ByteArray):Rows:=rows.mapIdx fun i s=>(i*10000,s)
def Ze5 (rows:List ByteArray):EdT:=⟨Zdl rows,rows.length*10000⟩
theorem ZfK (rows:List ByteArray):(Zdl rows).length=rows.length:=by simp [Zdl]
theorem ZgX {rows:List ByteArray} {i:Nat} {s:ByteArray} (h:rows[i]? =some s):(Zdl rows)[i]? =some (i*10000,s):=by simp [Zdl,List.getElem?_mapIdx,h]
end Go.Im.Editing
namespace Go.Proofs.YtachkofbmodnnaaGreat.D17
open Go Go.Im Go.Im.Limbs Go.Im.Lexing Go.Im.Heads Go.Im.Editing Go.Im.Defn Go.Proofs Go.RowKit Hd H2 H3 H4 H5 D2 D4 D5 D8 D9 D12
set_option maxRecDepth 100000
theorem ZnF (d:DefT) (h:Heap) {v:Value} (V:DV h v d) (G:Heads.Good d.hd) (hm:d.lines.length≤1000):Runs K 44 #[v] h fun r w=>∃ q b,r= .pointer (some ⟨q,0,none⟩)∧EP h.size w q b (Ze5 (ZcJ d)):=by
 have V0:=V
 obtain ⟨a0,c0,a1,c1,a2,c2,rfl,s1,s2,s3⟩:=V
 refine Runs.of Kok (Does.intro rfl Yf Tryz.func44 rfl ?_)
 obtain ⟨w1,e1,x1,hs1,z1⟩:=lay1 h (.cells [.string d.hd.nm,.string d.hd.re,.string d.hd.le,.string d.hd.ri,.slice a0 d.hd.ls.length c0,.slice a1 d.lines.length c1,.slice a2 d.labels.length c2] 7)
 obtain ⟨w2,e2,x2,hs2,z2⟩:=lay1 w1 (.cells [.slice none 0 0,.int .i64 0] 2)
 have x02:=x1.trans x2
 have z12:w2.get h.size=_:=(x2.2 _ Ya).trans z1
 have rr:=ZiA d w2 (V0.ext x02) G Ya
 simp only [dl,hl] at rr
 simp +decide only [go_sem,WR,WS,dl,hl,e1,e2,z12]
 refine Zaa Kok x02.1 rr fun r w3 x3 hr=> ?_
 obtain ⟨a,c,rfl,sr⟩:=hr
 obtain ⟨rows,hrows⟩:∃ rows,rows=ZcJ d:=⟨_,rfl⟩
 have hlr:=Zfa d
 rw [← hrows] at sr hlr ⊢
 obtain ⟨n,hn⟩:∃ n,n=rows.length:=⟨_,rfl⟩
 obtain ⟨qb,hqb⟩:∃ qb,qb=w1.size:=⟨_,rfl⟩
 have x03:=x02.trans x3
 have z3:w3.get qb= .cells [.slice none 0 0,.int .i64 0] 2:=by rw [hqb];exact (x3.2 _ Ya).trans z2
 have hq1:h.size≤qb:=by rw [hqb];exact x1.1
 have hq3:qb < w3.size:=by have:=x3.1;omega
 rw [← hn] at sr ⊢
 rw [← hqb]
 have tl:=ZfK rows
 rw [← hn] at tl
 simp +decide only [go_sem,WR,WS]
 refine Zah (α:=Nat × Value) (fun i e W=>i.1≤n∧e.size=40∧Ext h W∧Frm (fun k=>k=qb) w3 W∧W.get qb= .cells [i.2,.int .i64 0] 2∧Own h.size W 2 i.2 i.1 (erv ((Zdl rows).take i.1))∧(∀ k,k < w3.size→vblk i.2≠some k)∧e.get 3= .pointer (some ⟨qb,0,none⟩)∧e.get 9= .slice a n c∧e.get 10= .int .i64 ((n:Nat):Int)∧e.get 11= .int .i64 (i.1:Int)) (fun i=>n - i.1) (0,.slice none 0 0) ?_ ?_
 ·exact ⟨Nat.zero_le _,Yc,x03,Frm.refl _ _,z3,Own.nil _ _ _,fun k _=>by simp [vblk],Yc,Yc,Yc,by simp +decide only [go_sem];rfl⟩
 rintro ⟨i,u⟩ e W ⟨hi,hsz,xW,fr,gq,own,hvq,e3,e9,e10,e11⟩ next
 simp only at hi gq own hvq e11
 by_cases hil:(i:Int) < ((n:Nat):Int)
 ·have hp:rows[i]? =some rows[i]:=List.getElem?_eq_getElem Ya
  obtain ⟨p,hpd⟩:∃ p,p=rows[i]:=⟨_,rfl⟩
  rw [← hpd] at hp
  have sr':=sr
  rw [hn] at sr'
  obtain ⟨b,o,cs,rfl,q2,q3,q4⟩:=ZaX sr' (i:=i) Ya
  have hbq:b≠qb:=fun e=>by rw [e,z3] at q3;cases q3
  have q3':(W.get b).read= .cells cs 1:=by rw [fr.2 b q2 hbq];exact q3
  rw [← hpd] at q4
  have ci:(0:Int)≤(i:Int):=Ya
  have i1:IntKind.i64.wrap ((i:Int)+1)=((i+1:Nat):Int):=Yd
  have i2:IntKind.i64.wrap ((i:Int)*10000)=((i*10000:Nat):Int):=Yd
  obtain ⟨w5,f5,x5,hs5,z5⟩:=lay1 W (.cells [.int .i64 ((i*10000:Nat):Int),.string p] 2)
  obtain ⟨w6,f6,o6,hs6,k6⟩:=ZdB (low:=h.size) (h:=w5) (bytes:=24) (k:=1) (new:=[.int .i64 ((i*10000:Nat):Int),.string p]) (own.ext x5) (by have:=xW.1;omega) Ya Ya rfl Ya Ya
  have hWq:qb < W.size:=by have:=fr.1;omega
  have gq6:w6.get qb= .cells [u,.int .i64 0] 2:=by rw [k6 qb Ya (hvq qb hq3),x5.2 qb hWq];exact gq
  obtain ⟨w7,f7⟩:∃ w7,w6.set qb (.cells [.slice (some ⟨w5.size,0,none⟩) (i+1) big,.int .i64 0] 2)=w7:=⟨_,rfl⟩
  have et:erv ((Zdl rows).take (i+1))=erv ((Zdl rows).take i)++[.int .i64 ((i*10000:Nat):Int),.string p]:=by
   rw [List.take_add_one,ZgX hp,ZaM]
   rfl
  simp +decide only [go_sem,WR,WS,hsz,e3,e9,e10,e11,gq,hil,ci,Int.toNat_natCast,q3',q4,i2,f5,z5,f6,gq6,hq1,f7,i1]
  rw [← et] at o6
  have hW3:=fr.1
  have hW0:=xW.1
  have k7:∀ k,k < w3.size→k≠qb→w7.get k=W.get k:=fun k hk hkq=>by rw [← f7,Heap.Zae,if_neg hkq,k6 k Ya (hvq k hk),x5.2 k Ya]
  have s7:w7.size=w6.size:=by rw [← f7];rfl
  refine next (i+1,.slice (some ⟨w5.size,0,none⟩) (i+1) big) _ _ ⟨by simp only;omega,Yb,⟨by omega,fun k hk=> ?_⟩,⟨by omega,fun k hk hkq=> ?_⟩,?_,?_,fun k hk=> ?_,Yq,Ys,YA,Yb⟩ Yk
  ·rw [k7 k (by have:=x03.1;omega) Ya]
   exact xW.2 k hk
  ·rw [k7 k hk hkq]
   exact fr.2 k hk hkq
  ·rw [← f7,Heap.Zae,if_pos rfl]
  ·rcases o6 with ⟨h1,_⟩ | ⟨b',hb',l1,l2,l3,l4⟩
   ·cases h1
   ·cases hb'
    exact .inr ⟨w5.size,rfl,l1,by omega,by rw [← f7,Heap.Zae,if_neg Ya];exact l3,l4⟩
  ·simp only [vblk,ne_eq,Option.some.injEq]
   omega
 ·have hin:i=n:=by omega
  subst hin
  have i3:IntKind.i64.wrap ((i:Int)*10000)=((i*10000:Nat):Int):=Yd
  rw [List.take_of_length_le Ya] at own
  rcases own with ⟨_,h1,_⟩ | ⟨b,rfl,h1,h2,h3,h4⟩
  ·omega
  obtain ⟨w7,f7⟩:∃ w7,W.set qb (.cells [.slice (some ⟨b,0,none⟩) i big,.int .i64 ((i*10000:Nat):Int)] 2)=w7:=⟨_,rfl⟩
  simp +decide only [go_sem,WR,WS,hsz,e3,e10,e11,gq,hil,i3,hq1,f7]
  have hbq:qb≠b:=fun e=>hvq qb hq3 (by simp [vblk,e])
  refine ⟨qb,b,rfl,⟨hq1,by rw [← f7];have:=fr.1;simp only [Heap.size_set];omega,h1,by rw [← f7];exact h2,hbq,?_,erv (Zdl rows),?_,?_,?_⟩⟩
  ·rw [← f7,Heap.Zae,if_pos rfl]
   simp only [Ze5,tl]
   rw [← hn]
  ·rw [← f7,Heap.Zae,if_neg (fun e=>hbq e.symm)]
   exact h3
  ·simp only [Ze5,tl]
   omega
  ·simp only [Ze5]
   exact List.take_of_length_le (by rw [Zat];omega)
theorem Zlw (d:DefT) (h:Heap) {v:Value} (V:DV h v d) (G:Heads.Good d.hd) (hm:d.lines.length≤1000):Runs K 45 #[v] h fun r w=>∃ q b,r= .pointer (some ⟨q,0,none⟩)∧EP h.size w q b (Ze5 (ZcJ d)):=by
 have V0:=V
 obtain ⟨a0,c0,a1,c1,a2,c2,rfl,s1,s2,s3⟩:=V
 refine Runs.of Kok (Does.intro rfl Yf Tryz.func45 rfl ?_)
 obtain ⟨w1,e1,x1,hs1,z1⟩:=lay1 h (.cells [.string d.hd.nm,.string d.hd.re,.string d.hd.le,.string d.hd.ri,.slice a0 d.hd.ls.length c0,.slice a1 d.lines.length c1,.slice a2 d.labels.length c2] 7)
 obtain ⟨w2,e2,x2,hs2,z2⟩:=lay1 w1 (.cells [.slice none 0 0,.int .i64 0] 2)
 have x02:=x1.trans x2
 have z12:w2.get h.size=_:=(x2.2 _ Ya).trans z1
 have rr:=Zgr d w2 (V0.ext x02) G Ya
 simp only [dl,hl] at rr
 simp +decide only [go_sem,WR,WS,dl,hl,e1,e2,z12]
 refine Zaa Kok x02.1 rr fun r w3 x3 hr=> ?_
 obtain ⟨a,c,rfl,sr⟩:=hr
 obtain ⟨rows,hrows⟩:∃ rows,rows=ZcJ d:=⟨_,rfl⟩
 have hlr:=Zfa d
 rw [← hrows] at sr hlr ⊢
 obtain ⟨n,hn⟩:∃ n,n=rows.length:=⟨_,rfl⟩
 obtain ⟨qb,hqb⟩:∃ qb,qb=w1.size:=⟨_,rfl⟩
 have x03:=x02.trans x3
 have z3:w3.get qb= .cells [.slice none 0 0,.int .i64 0] 2:=by rw [hqb];exact (x3.2 _ Ya).trans z2
 have hq1:h.size≤qb:=by rw [hqb];exact x1.1
 have hq3:qb < w3.size:=by have:=x3.1;omega
 rw [← hn] at sr ⊢
 rw [← hqb]
 have tl:=ZfK rows
 rw [← hn] at tl
 simp +decide only [go_sem,WR,WS]
 refine Zah (α:=Nat × Value) (fun i e W=>i.1≤n∧e.size=39∧Ext h W∧Frm (fun k=>k=qb) w3 W∧W.get qb= .cells [i.2,.int .i64 0] 2∧Own h.size W 2 i.2 i.1 (erv ((Zdl rows).take i.1))∧(∀ k,k < w3.size→vblk i.2≠some k)∧e.get 3= .pointer (some ⟨qb,0,none⟩)∧e.get 4= .slice a n c∧e.get 5= .int .i64 (i.1:Int)) (fun i=>n - i.1) (0,.slice none 0 0) ?_ ?_
 ·exact ⟨Nat.zero_le _,Yc,x03,Frm.refl _ _,z3,Own.nil _ _ _,fun k _=>by simp [vblk],Yc,Yc,by simp +decide only [go_sem];rfl⟩
 rintro ⟨i,u⟩ e W ⟨hi,hsz,xW,fr,gq,own,hvq,e3,e4,e5⟩ next
 simp only at hi gq own hvq e5
 by_cases hil:(i:Int) < ((n:Nat):Int)
 ·have hp:rows[i]? =some rows[i]:=List.getElem?_eq_getElem Ya
  obtain ⟨p,hpd⟩:∃ p,p=rows[i]:=⟨_,rfl⟩
  rw [← hpd] at hp
  have sr':=sr
  rw [hn] at sr'
  obtain ⟨b,o,cs,rfl,q2,q3,q4⟩:=ZaX sr' (i:=i) Ya
  have hbq:b≠qb:=fun e=>by rw [e,z3] at q3;cases q3
  have q3':(W.get b).read= .cells cs 1:=by rw [fr.2 b q2 hbq];exact q3
  rw [← hpd] at q4
  have ci:(0:Int)≤(i:Int):=Ya
  have i1:IntKind.i64.wrap ((i:Int)+1)=((i+1:Nat):Int):=Yd
  have i2:IntKind.i64.wrap (10000*(i:Int))=((i*10000:Nat):Int):=Yd
  obtain ⟨w5,f5,x5,hs5,z5⟩:=lay1 W (.cells [.int .i64 ((i*10000:Nat):Int),.string p] 2)
  obtain ⟨w6,f6,o6,hs6,k6⟩:=ZdB (low:=h.size) (h:=w5) (bytes:=24) (k:=1) (new:=[.int .i64 ((i*10000:Nat):Int),.string p]) (own.ext x5) (by have:=xW.1;omega) Ya Ya rfl Ya Ya
  have hWq:qb < W.size:=by have:=fr.1;omega
  have gq6:w6.get qb= .cells [u,.int .i64 0] 2:=by rw [k6 qb Ya (hvq qb hq3),x5.2 qb hWq];exact gq
  obtain ⟨w7,f7⟩:∃ w7,w6.set qb (.cells [.slice (some ⟨w5.size,0,none⟩) (i+1) big,.int .i64 0] 2)=w7:=⟨_,rfl⟩
  have et:erv ((Zdl rows).take (i+1))=erv ((Zdl rows).take i)++[.int .i64 ((i*10000:Nat):Int),.string p]:=by
   rw [List.take_add_one,ZgX hp,ZaM]
   rfl
  simp +decide only [go_sem,WR,WS,hsz,e3,e4,e5,gq,hil,ci,Int.toNat_natCast,q3',q4,i2,f5,z5,f6,gq6,hq1,f7,i1]
  rw [← et] at o6
  have hW3:=fr.1
  have hW0:=xW.1
  have k7:∀ k,k < w3.size→k≠qb→w7.get k=W.get k:=fun k hk hkq=>by rw [← f7,Heap.Zae,if_neg hkq,k6 k Ya (hvq k hk),x5.2 k Ya]
  have s7:w7.size=w6.size:=by rw [← f7];rfl
  refine next (i+1,.slice (some ⟨w5.size,0,none⟩) (i+1) big) _ _ ⟨by simp only;omega,Yb,⟨by omega,fun k hk=> ?_⟩,⟨by omega,fun k hk hkq=> ?_⟩,?_,?_,fun k hk=> ?_,Yq,Yg,Yb⟩ Yk
  ·rw [k7 k (by have:=x03.1;omega) Ya]
   exact xW.2 k hk
  ·rw [k7 k hk hkq]
   exact fr.2 k hk hkq
  ·rw [← f7,Heap.Zae,if_pos rfl]
  ·rcases o6 with ⟨h1,_⟩ | ⟨b',hb',l1,l2,l3,l4⟩
   ·cases h1
   ·cases hb'
    exact .inr ⟨w5.size,rfl,l1,by omega,by rw [← f7,Heap.Zae,if_neg Ya];exact l3,l4⟩
  ·simp only [vblk,ne_eq,Option.some.injEq]
   omega
 ·have hin:i=n:=by omega
  subst hin
  have i3:IntKind.i64.wrap (10000*(i:Int))=((i*10000:Nat):Int):=Yd
  rw [List.take_of_length_le Ya] at own
  rcases own with ⟨_,h1,_⟩ | ⟨b,rfl,h1,h2,h3,h4⟩
  ·omega
  obtain ⟨w7,f7⟩:∃ w7,W.set qb (.cells [.slice (some ⟨b,0,none⟩) i big,.int .i64 ((i*10000:Nat):Int)] 2)=w7:=⟨_,rfl⟩
  simp +decide only [go_sem,WR,WS,hsz,e3,e4,e5,gq,hil,i3,hq1,f7]
  have hbq:qb≠b:=fun e=>hvq qb hq3 (by simp [vblk,e])
  refine ⟨qb,b,rfl,⟨hq1,by rw [← f7];have:=fr.1;simp only [Heap.size_set];omega,h1,by rw [← f7];exact h2,hbq,?_,erv (Zdl rows),?_,?_,?_⟩⟩
  ·rw [← f7,Heap.Zae,if_pos rfl]
   simp only [Ze5,tl]
   rw [← hn]
  ·rw [← f7,Heap.Zae,if_neg (fun e=>hbq e.symm)]
   exact h3
  ·simp only [Ze5,tl]
   omega
  ·simp only [Ze5]
   exact List.take_of_length_le (by rw [Zat];omega)
end Go.Proofs.YtachkofbmodnnaaGreat.D17
namespace Go.Im.Editing
open Go Go.Im Go.Im.Lexing Go.Im.Heads Go.Im.Defn
def sumS (l:List ByteArray):Nat:=(l.map fun r=>min r.size 2000).sum
theorem Zld {l:List ByteArray} {i:Nat} {r:ByteArray} (h:l[i]? =some r):sumS (l.take (i+1))=sumS (l.take i)+min r.size 2000:=by
 simp [sumS,List.take_add_one,h]
theorem Zle:∀ l:List ByteArray,sumS l≤2000*l.length
 | []=>by simp [sumS]
 | r::l=>by
   have:=Zle l
   simp only [sumS,List.map_cons,List.sum_cons,List.length_cons] at this ⊢
   omega
end Go.Im.Editing
namespace Go.Proofs.YtachkofbmodnnaaGreat.D18
open Go Go.Im Go.Im.Limbs Go.Im.Lexing Go.Im.Heads Go.Im.Editing Go.Im.Defn Go.Proofs Go.RowKit Hd H2 H3 H4 H5 D2 D3 D4 D5 D8 D9 D17
set_option maxRecDepth 100000
set_option maxHeartbeats 1000000 in
theorem Zm8 (rows:List ByteArray) (h:Heap) {a:Option Addr} {c:Nat} (s:Sl h 1 a rows.length c (sv rows)) (hn:rows.length≤9223372036854775807) (hz:∀ r ∈ rows,r.size≤9223372036854775807) :
  Runs K 20 #[.slice a rows.length c] h fun r w=>r= .tuple #[.pointer none,.pointer none]∨∃ q b q' b',r= .tuple #[.pointer (some ⟨q,0,none⟩),.pointer (some ⟨q',0,none⟩)]∧EP h.size w q b (Ze5 (ZcJ (Zby rows).1))∧EP h.size w q' b' (Ze5 (ZcJ (Zby rows).1)) ∧
   q≠q'∧q≠b'∧b≠q'∧b≠b'∧rows.length≤40∧(Zby rows).2 < 0:=by
 refine Runs.of Kok (Does.intro rfl Yf Tryz.func20 rfl ?_)
 apply ZaW (α:=Unit) (fun _ e w=>e.size=57∧h=w∧e.get 0= .slice a rows.length c∧∃ t:Nat,e.get 4= .int .i64 (t:Int))
 ·intro cont
  simp +decide only [go_sem,WR,WS]
  refine Zah (α:=Nat) (fun i e w=>i≤rows.length∧i≤40∧e.size=57∧h=w∧e.get 0= .slice a rows.length c∧e.get 4= .int .i64 ((sumS (rows.take i):Nat):Int)∧e.get 5= .int .i64 (i:Int)) (fun i=>rows.length - i) 0 ?_ ?_
  ·exact ⟨Nat.zero_le _,by omega,Yc,rfl,Yc,by simp +decide only [go_sem];rfl,by simp +decide only [go_sem];rfl⟩
  rintro i e w ⟨hi,hi4,hsz,hw,e0,e4,e5⟩ next
  subst hw
  by_cases hil:(i:Int) < ((rows.length:Nat):Int)
  ·by_cases h40:(i:Int) < 40
   ·obtain ⟨b,o,cs,rfl,q2,q3,q4⟩:=ZaX s (i:=i) Ya
    have hy:rows[i]? =some rows[i]:=List.getElem?_eq_getElem Ya
    have c0:(0:Int)≤(i:Int):=Ya
    have hs:=Zld hy
    have hle:=Zle (rows.take i)
    rw [List.length_take] at hle
    have i1:IntKind.i64.wrap ((i:Int)+1)=((i+1:Nat):Int):=Yd
    have em:min ((rows[i].size:Nat):Int) 2000=((min rows[i].size 2000:Nat):Int):=Ya
    have i2:IntKind.i64.wrap (((sumS (rows.take i):Nat):Int)+((min rows[i].size 2000:Nat):Int))=((sumS (rows.take (i+1)):Nat):Int):=by rw [hs,wrap_i64 Ya Ya];omega
    simp +decide only [go_sem,WR,WS,hsz,e0,e4,e5,hil,h40,c0,Int.toNat_natCast,q3,q4,em,i2,i1]
    exact next (i+1) _ _ ⟨by omega,by omega,Yb,rfl,Ye,Yb,Yb⟩ Ya
   ·simp +decide only [go_sem,WS]
    (rw [WR];simp +decide only [go_sem,WS,hsz,e0,e5,hil,h40])
    exact cont () _ _ ⟨Yb,rfl,Ye,sumS (rows.take i),Yg⟩
  ·simp +decide only [go_sem,WS]
   (rw [WR];simp +decide only [go_sem,WS,hsz,e0,e5,hil])
   exact cont () _ _ ⟨Yb,rfl,Ye,sumS (rows.take i),Yg⟩
 rintro _ e w ⟨hsz,hw,e0,t,e4⟩
 subst hw
 (rw [WR];simp +decide only [go_sem,WS,hsz,e0])
 refine Zaa Kok (Nat.le_refl _) (ZjU rows h s hn hz) fun r w1 x1 hr=> ?_
 obtain ⟨v,rfl,D⟩:=hr
 have G:=ZfO rows
 have hfew:=(Zg4 rows).1
 obtain ⟨bad,hbad⟩:∃ bad,bad=(Zby rows).2:=⟨_,rfl⟩
 obtain ⟨d,hd⟩:∃ d,d=(Zby rows).1:=⟨_,rfl⟩
 rw [← hbad]
 rw [← hd] at D G hfew ⊢
 have D0:=D
 obtain ⟨a0,c0,a1,c1,a2,c2,rfl,s1,s2,s3⟩:=D
 obtain ⟨w2,e2,x2,hs2,z2⟩:=lay1 w1 (.cells [.string ByteArray.empty,.string ByteArray.empty,.string ByteArray.empty,.string ByteArray.empty,.slice none 0 0,.slice none 0 0,.slice none 0 0] 7)
 obtain ⟨w3,e3,x3,hs3,z3,k3⟩:=put1 x2 (Nat.le_refl _) (.cells (dl d.hd (.slice a0 d.hd.ls.length c0) (.slice a1 d.lines.length c1) (.slice a2 d.labels.length c2)) 7)
 have x03:=x1.trans x3
 simp only [dl,hl] at e3 z3
 have j1:h.size≤w1.size:=x1.1
 simp +decide only [go_sem,WS,hsz,dl,hl,e2,z2,j1,e3]
 (rw [WR];simp +decide only [go_sem,WS,hsz,e0])
 refine Zaa Kok x03.1 (ZhQ rows w3 (s.ext x03) hn hz) fun r w4 x4 hr=> ?_
 obtain ⟨v,rfl,D⟩:=hr
 rw [← hd] at D
 rw [← hbad]
 have D1:=D
 obtain ⟨a3,c3,a4,c4,a5,c5,rfl,s4,s5,s6⟩:=D
 obtain ⟨w5,e5,x5,hs5,z5⟩:=lay1 w4 (.cells [.string ByteArray.empty,.string ByteArray.empty,.string ByteArray.empty,.string ByteArray.empty,.slice none 0 0,.slice none 0 0,.slice none 0 0] 7)
 obtain ⟨w6,e6,x6,hs6,z6,k6⟩:=put1 x5 (Nat.le_refl _) (.cells (dl d.hd (.slice a3 d.hd.ls.length c3) (.slice a4 d.lines.length c4) (.slice a5 d.labels.length c5)) 7)
 have x06:=x03.trans (x4.trans x6)
 simp only [dl,hl] at e6 z6
 have j4:h.size≤w4.size:=(x03.trans x4).1
 simp +decide only [go_sem,WS,hsz,dl,hl,e5,z5,j4,e6]
 have z63:w6.get w1.size= .cells [.string d.hd.nm,.string d.hd.re,.string d.hd.le,.string d.hd.ri,.slice a0 d.hd.ls.length c0,.slice a1 d.lines.length c1,.slice a2 d.labels.length c2] 7:=by
  have:=x4.1
  rw [x6.2 _ Ya,x4.2 _ Ya]
  exact z3
 by_cases h40:(40:Int) < ((rows.length:Nat):Int)
 ·simp +decide only [go_sem,WR,WS,hsz,e0,h40]
  exact .inl trivial
 by_cases h2000:(2000:Int) < (t:Int)
 ·simp +decide only [go_sem,WR,WS,hsz,e0,e4,h40,h2000]
  exact .inl trivial
 by_cases hb0:(0:Int)≤bad
 ·simp +decide only [go_sem,WR,WS,hsz,e0,e4,h40,h2000,hb0]
  exact .inl trivial
 have op:=ZnF d w6 (D0.ext (x3.trans (x4.trans x6))) G Ya
 simp only [dl,hl] at op
 simp +decide only [go_sem,WR,WS,hsz,e0,e4,h40,h2000,hb0,z63]
 refine Zaa Kok x06.1 op fun r w7 x7 hr=> ?_
 obtain ⟨q,b,rfl,E1⟩:=hr
 have z67:w7.get w4.size=_:=(x7.2 _ Ya).trans z6
 have rop:=Zlw d w7 (D1.ext (x6.trans x7)) G Ya
 simp only [dl,hl] at rop
 simp +decide only [go_sem,WS,hsz,z67]
 refine Zaa Kok (x06.trans x7).1 rop fun r w8 x8 hr=> ?_
 obtain ⟨q',b',rfl,E2⟩:=hr
 simp +decide only [go_sem,WS,hsz]
 have k1:=E1.lq
 have k2:=E1.hq
 have k3:=E1.lb
 have k4:=E1.hb
 have k5:=E2.lq
 have k6:=E2.lb
 have k7:=x06.1
 have k8:=x7.1
 have E1':=E1.ext x8
 refine .inr ⟨q,b,q',b',rfl,⟨by omega,E1'.hq,by omega,E1'.hb,E1'.ne,E1'.ed,E1'.row⟩,⟨by omega,E2.hq,by omega,E2.hb,E2.ne,E2.ed,E2.row⟩,by omega,by omega,by omega,by omega,by omega,by omega⟩
end Go.Proofs.YtachkofbmodnnaaGreat.D18
namespace Go.Im.Editing
open Go Go.Im Go.Im.Lexing Go.Im.Heads Go.Im.Defn Go.Proofs.YtachkofbmodnnaaGreat.H4 Go.Proofs.YtachkofbmodnnaaGreat.D4
theorem Zg5 {x:HdT}:∀ {rs:List ByteArray} {i:Nat} {ls:List ByteArray} {lb:List (ByteArray × Nat)} {tk:List ByteArray},(∀ y ∈ ls,y.size≤2048)→∀ y ∈ (ZaN x rs i ls lb tk).1.lines,y.size≤2048
 | [],i,ls,lb,tk,hl=>by rw [ZaN];exact hl
 | r::rs,i,ls,lb,tk,hl=>by
   have nil:∀ y ∈ dZ.lines,y.size≤2048:=by intro y hy;simp [dZ] at hy
   by_cases h1:(lex (trimS (Zaq r))).isNone=true∨200 < i
   ·rw [ZcU h1]
    exact nil
   ·have hl':∀ y ∈ ls++[runesBytes (trimS (Zaq r))],y.size≤2048:=by
     intro y hy
     rcases List.mem_append.1 hy with hy | hy
     ·exact hl y hy
     ·simp only [List.mem_singleton] at hy
      rw [hy]
      cases hx:lex (trimS (Zaq r)) with
      | none=>exact absurd (.inl (by rw [hx];rfl)) h1
      | some ts =>
        have:=Zg8 hx
        have:=ZjB (trimS (Zaq r))
        omega
    by_cases h2:(ZaO (trimS (Zaq r))).1=E
    ·rw [ZeE h1 h2]
     exact Zg5 hl'
    ·by_cases h3:(ZaO (trimS (Zaq r))).1 ∈ tk
     ·rw [ZdC h1 h2 h3]
      exact nil
     ·rw [ZeF h1 h2 h3]
      exact Zg5 hl'
theorem Zps (rows:List ByteArray):∀ y ∈ (Zby rows).1.lines,y.size≤2048:=by
 intro y hy
 cases rows with
 | nil=>simp [Zby,dZ] at hy
 | cons r rs =>
   rw [Zby] at hy
   split at hy
   ·exact Zg5 Yp y hy
   ·simp [dZ] at hy
theorem open_inv (rows:List ByteArray) (h:rows.length≤40):Inv (Ze5 (ZcJ (Zby rows).1)):=by
 have hf:=(Zg4 rows).1
 have hlen:=Zfa (Zby rows).1
 obtain ⟨R,hR⟩:∃ R,R=ZcJ (Zby rows).1:=⟨_,rfl⟩
 have hsz:∀ y ∈ R,y.size≤100000:=by
  intro y hy
  rw [hR,ZcJ] at hy
  rcases List.mem_cons.1 hy with rfl | hy
  ·exact Go.Proofs.YtachkofbmodnnaaGreat.D6.Zjs (ZfO rows)
  ·have:=Zps rows y hy
   omega
 rw [← hR] at hlen ⊢
 have at':∀ (i:Nat) (p:Nat × ByteArray),(Zdl R)[i]? =some p→p.1=i*10000∧p.2 ∈ R∧i < R.length:=by
  intro i p hp
  rw [Zdl,List.getElem?_mapIdx] at hp
  obtain ⟨s,hs,rfl⟩:=Option.map_eq_some_iff.1 hp
  exact ⟨rfl,List.mem_of_getElem? hs,(List.getElem?_eq_some_iff.1 hs).1⟩
 refine ⟨?_,?_,?_,?_,?_,?_⟩
 ·refine List.pairwise_iff_getElem.2 fun i j hi hj hij=> ?_
  have h1:=(at' i _ (List.getElem?_eq_getElem hi)).1
  have h2:=(at' j _ (List.getElem?_eq_getElem hj)).1
  rw [h1,h2]
  omega
 ·obtain ⟨s,hs⟩:∃ s,R[0]? =some s:=⟨_,List.getElem?_eq_getElem Ya⟩
  exact ZbA.2 ⟨s,List.mem_of_getElem? (ZgX hs)⟩
 ·show (Zdl R).length≤201
  rw [ZfK]
  omega
 ·intro p hp
  obtain ⟨i,hi⟩:=List.getElem?_of_mem hp
  obtain ⟨h1,_,h3⟩:=at' i p hi
  omega
 ·intro p hp
  obtain ⟨i,hi⟩:=List.getElem?_of_mem hp
  exact hsz _ (at' i p hi).2.1
 ·show R.length*10000≤9999999
  omega
end Go.Im.Editing
namespace Go.Im.Editing
open Go Go.Im Go.Im.Lexing Go.Im.Heads Go.Im.Defn
theorem Zqj {x:EdT} {l tx:List Int} {out:List ByteArray} {y:EdT} (h:cmdS x l tx=some (out,y)):out.length≤x.rows.length:=by
 unfold cmdS at h
 split at h
 ·split at h
  ·cases h;simp
  ·obtain ⟨z,hz,he⟩:=Option.map_eq_some_iff.1 h
   cases he
   simp
 ·split at h
  ·cases h
  ·split at h
   ·split at h
    ·cases h
     exact ZdT _ _ _
    ·obtain ⟨z,hz,he⟩:=Option.map_eq_some_iff.1 h
     cases he
     exact ZdT _ _ _
   ·split at h
    ·obtain ⟨z,hz,he⟩:=Option.map_eq_some_iff.1 h
     cases he
     exact ZdT _ _ _
    ·split at h
     ·obtain ⟨n,hn,h2⟩:=Option.bind_eq_some_iff.1 h
      obtain ⟨z,hz,he⟩:=Option.map_eq_some_iff.1 h2
      cases he
      simp
     ·cases h
theorem Zsj (x:EdT) (l:List Int):(doS x l).1.length≤x.rows.length:=by
 unfold doS
 simp only
 split
 ·simp
 ·split
  ·split
   ·rename_i out y hy
    obtain ⟨i,_,h⟩:=Option.bind_eq_some_iff.1 hy
    exact Zqj h
   ·simp
  ·split<;>simp
theorem EQ.pass {w w':Heap} {F F' G:Nat→Prop} {q:Nat} {x:EdT} (E:EQ w F q x) (fr:Frm G w w') (hq:¬ G q) (hG:∀ k,k < w.size→G k→F k) (hF:∀ k,k < w.size→F' k→F k):EQ w' F' q x:=by
 obtain ⟨h,a,c,h1,h2⟩:=E
 refine ⟨by have:=fr.1;omega,a,c,(fr.2 q h hq).trans h1,?_⟩
 have k1:SlF w (fun k=>F k∨F' k∨G k) 2 a x.rows.length c (erv x.rows):=h2.weaken fun k hk hh=>by
  rcases hh with hh | hh | hh
  ·exact hh
  ·exact hF k hk hh
  ·exact hG k hk hh
 exact (k1.frm (fr.weaken fun k _ hg=> .inr (.inr hg))).weaken fun k _ hk=> .inr (.inl hk)
end Go.Im.Editing
namespace Go.Proofs.YtachkofbmodnnaaGreat.D19
open Go Go.Im Go.Im.Limbs Go.Im.Lexing Go.Im.Heads Go.Im.Editing Go.Im.Defn Go.Proofs Go.RowKit Hd H2 H3 H4 H5 D2 D3 D4 D5 D6 D8 D9 D11 D15 D18
set_option maxRecDepth 100000
set_option maxHeartbeats 1000000 in
theorem ZfJ (rows:List ByteArray) (ls:List (List Int)) (h:Heap) {a:Option Addr} {c:Nat} (s:Sl h 1 a rows.length c (sv rows)) (hn:rows.length≤9223372036854775807) (hz:∀ r ∈ rows,r.size≤9223372036854775807)
  {la:Option Addr} {lc:Nat} {vs:List Value} (sl:Sl h 1 la ls.length lc vs) (hv:∀ (i:Nat) (l:List Int),ls[i]? =some l→∃ v,vs[i]? =some v∧Ln h v l) (hls:ls.length≤9223372036854775807) :
  Runs K 6 #[.slice a rows.length c,.slice la ls.length lc] h fun r w=>r= .bool true:=by
 refine Runs.of Kok (Does.intro rfl Yf Tryz.func6 rfl ?_)
 simp +decide only [go_sem,WR,WS]
 refine Zaa Kok (Nat.le_refl _) (Zm8 rows h s hn hz) fun r w1 x1 hr=> ?_
 rcases hr with rfl | ⟨q,b,q',b',rfl,E,E',n1,n2,n3,n4,h40,hbad⟩
 ·simp +decide only [go_sem,WR,WS]
  refine Zaa Kok x1.1 (Za4 w1) fun r w2 x2 hr=> ?_
  subst hr
  simp +decide only [go_sem,WS]
 have I0:=open_inv rows h40
 generalize Ze5 (ZcJ (Zby rows).1)=x0 at E E' I0
 have lq':=E'.lq
 have EQ0:EQ w1 (fun k=>k=q∨k=b∨k=q') q' x0:=by
  obtain ⟨cs,g1,g2,g3⟩:=E'.row
  refine ⟨E'.hq,_,_,E'.ed,.inr (.inr ⟨b',0,cs,rfl,by simp [big],E'.hb,by rw [g1];rfl,by omega,by rw [List.drop_zero,g3],.inr rfl⟩),fun _ ad had hk=> ?_⟩
  cases had
  have:=E'.ne
  rcases hk with hk | hk | hk
  ·exact n2 hk.symm
  ·exact n4 hk.symm
  ·exact this hk.symm
 have aw:∀ {w:Heap},h.size≤w.size→Runs K 8 #[] w fun v _=>v= .bool true:=fun _=>Za4 _
 simp +decide only [go_sem,WR,WS]
 refine Zah (α:=Nat × Nat × EdT) (fun i e W=>i.1≤ls.length∧i.1≤30∧e.size=84∧Ext h W∧e.get 1= .slice la ls.length lc∧e.get 5= .pointer (some ⟨q,0,none⟩)∧e.get 6= .pointer (some ⟨q',0,none⟩)∧e.get 7= .int .i64 (i.1:Int) ∧
  EP h.size W q i.2.1 i.2.2∧EQ W (fun k=>k=q∨k=i.2.1∨k=q') q' i.2.2∧i.2.1≠q'∧Inv i.2.2) (fun i=>ls.length - i.1) (0,b,x0) ?_ ?_
 ·exact ⟨Nat.zero_le _,by omega,Yc,x1,Yc,Yc,Yc,by simp +decide only [go_sem];rfl,E,EQ0,n3,I0⟩
 rintro ⟨i,b2,x⟩ e W ⟨hi,hi3,hsz,xW,e1,e5,e6,e7,EW,EQW,nb,I⟩ next
 simp only at hi hi3 e7 EW EQW nb I
 by_cases hil:(i:Int) < ((ls.length:Nat):Int)
 case neg =>
  simp +decide only [go_sem,WR,WS,hsz,e1,e7,hil]
  refine Zaa Kok xW.1 (Za4 W) fun r w2 x2 hr=> ?_
  subst hr
  simp +decide only [go_sem,WS,hsz]
 by_cases h30:(i:Int) < 30
 case neg =>
  simp +decide only [go_sem,WR,WS,hsz,e1,e7,hil,h30]
  refine Zaa Kok xW.1 (Za4 W) fun r w2 x2 hr=> ?_
  subst hr
  simp +decide only [go_sem,WS,hsz]
 obtain ⟨l,hl⟩:∃ l,ls[i]? =some l:=⟨_,List.getElem?_eq_getElem Ya⟩
 obtain ⟨lv,hlv,tl⟩:=hv i l hl
 obtain ⟨b0,o0,cs0,rfl,q2,q3,q4⟩:=sl.one hlv
 have c0:(0:Int)≤(i:Int):=Ya
 have i1:IntKind.i64.wrap ((i:Int)+1)=((i+1:Nat):Int):=Yd
 have q3W:(W.get b0).read= .cells cs0 1:=by rw [xW.2 b0 q2];exact q3
 simp +decide only [go_sem,WR,WS,hsz,e1,e7,hil,h30,c0,Int.toNat_natCast,q3W,q4]
 refine Zaa Kok xW.1 (Zlo l W (tl.ext xW)) fun r w2 x2 hr=> ?_
 obtain ⟨hw,bb,rfl,hbb⟩:=hr
 subst hw
 cases bb with
 | false =>
   simp +decide only [go_sem,WR,WS,hsz]
   refine Zaa Kok xW.1 (Za4 W) fun r w2 x2 hr=> ?_
   subst hr
   simp +decide only [go_sem,WS,hsz]
 | true =>
   have hll:=hbb rfl
   simp +decide only [go_sem,WS,hsz]
   (rw [WR];simp +decide only [go_sem,WS,hsz,e5,e1,e7,hil,c0,Int.toNat_natCast,q3W,q4])
   refine ZaQ rfl (Zqc xW.1 EW I (tl.ext xW) Ya) fun r w3 hr=> ?_
   obtain ⟨b3,oa,oc,rfl,E3,hb3,fr3,so3⟩:=hr
   have lqW:=EW.lq
   have hqW:=EW.hq
   have lbW:=EW.lb
   have hbW:=EW.hb
   have hq'W:=EQW.hq
   have s3:=fr3.1
   have xs:=xW.1
   have xw3:Ext h w3:=⟨by omega,fun k hk=>(fr3.2 k Ya (fun hh=>by rcases hh with hh | hh<;>omega)).trans (xW.2 k hk)⟩
   have nb3:b3≠q':=by rcases hb3 with hh | hh<;>omega
   have EQ3:EQ w3 (fun k=>k=q∨k=b3∨k=q') q' x:=EQ.pass EQW fr3 (fun hh=>by rcases hh with hh | hh<;>omega) (fun k _ hk=>by rcases hk with hk | hk;exact .inl hk;exact .inr (.inl hk)) (fun k hk hh=>by
    rcases hh with hh | hh | hh
    ·exact .inl hh
    ·rcases hb3 with h3 | h3
     ·exact .inr (.inl (by rw [hh,h3]))
     ·omega
    ·exact .inr (.inr hh))
   have q3w:(w3.get b0).read= .cells cs0 1:=by rw [xw3.2 b0 q2];exact q3
   have E3q:=E3.hq
   have E3b:=E3.hb
   simp +decide only [go_sem,WS,hsz]
   (rw [WR];simp +decide only [go_sem,WS,hsz,e6,e1,e7,hil,c0,Int.toNat_natCast,q3w,q4])
   refine ZaQ rfl (ZnB xw3.1 (F:=fun k=>k=q∨k=b3∨k=q') (fun k hk=>by rcases hk with hk | hk | hk<;>omega) (.inr (.inr rfl)) lq' EQ3 I (tl.ext xw3) Ya) fun r w4 hr=> ?_
   obtain ⟨ra,rc,rfl,E4,fr4,so4⟩:=hr
   have s4:=fr4.1
   have E5:EP h.size w4 q b3 (doS x l).2.2.2:=E3.frm fr4 n1 nb3
   have xw4:Ext h w4:=⟨by omega,fun k hk=>(fr4.2 k Ya Ya).trans (xw3.2 k hk)⟩
   have so5:Sl w4 1 oa (doS x l).1.length oc (sv (doS x l).1):=((so3.weaken (G:=fun k=>k=q') fun k _ hk=>by omega).frm fr4).1
   have I4:=Zsk I l
   have hfew:=I.few
   have hdo:=Zsj x l
   obtain ⟨D,hD⟩:∃ D,D=doS x l:=⟨_,rfl⟩
   rw [← hD] at E3 E4 E5 so4 so5 I4 hdo ⊢
   obtain ⟨out,en,er,y⟩:=D
   simp only at E3 E4 E5 so4 so5 I4 hdo ⊢
   have h0r:0 < y.rows.length:=by
    obtain ⟨t,ht⟩:=ZbA.1 I4.zero
    exact List.length_pos_of_mem ht
   have hfy:=I4.few
   simp +decide only [go_sem,WS,hsz]
   (rw [WR];simp +decide only [go_sem,WS,hsz])
   refine Zaa Kok xw4.1 (ZdR out w4 so5 so4.1 Ya) fun r w5 x5 hr=> ?_
   obtain ⟨rfl,hw⟩:=hr
   subst hw
   simp +decide only [go_sem,WS,hsz,e5,e6]
   refine Zaa Kok xw4.1 (Zln y w5 (E5.ev h0r) E4.ev Ya (fun r hr=>by
    obtain ⟨p,hp,rfl⟩:=List.mem_map.1 hr
    exact I4.sizes p hp) I4.next) fun r w6 x6 hr=> ?_
   subst hr
   simp +decide only [go_sem,WR,WS,hsz,e7,i1]
   exact next (i+1,b3,y) _ _ ⟨by simp only;omega,by simp only;omega,Yb,xw4.trans x6,Yh,Ym,Yn,Yb,E5.ext x6,EQ.pass E4 (Frm.ext (F:=fun _=>False) x6) (fun hh=>hh) (fun _ _ hh=>hh.elim) (fun _ _ hh=>hh),nb3,I4⟩ Yk
end Go.Proofs.YtachkofbmodnnaaGreat.D19
namespace Go.Im
open Go.RowKit
theorem Zc4.block {W:World} {vs:List View} (L:Zc4 W vs) {size:Nat} (hs:0 < size) {b o k c:Nat} {cc:Array Value} {e:TypeId} {fr:Nat × Nat} (hb:W.heap[b]? =some (.cells cc e fr)) (hkc:k≤c) (hc:0 < c) (hoc:o+c*size≤cc.size)
  {xs:List Value} (hxl:xs.length=k*size) (hrel:∀ (i:Nat) (x:Value),xs[i]? =some x→Zak x=true∧∃ y,cc[o+i]? =some y∧RV (ZaC vs) x y) :
  ∃ vs' a' c',Zc4 W vs'∧(∀ b l,ZaC vs b=some l→ZaC vs' b=some l)∧Ext (laid vs) (laid vs')∧RV (ZaC vs') (.slice a' k c') (.slice (some ⟨b,o,none⟩) k c)∧Sl (laid vs') size a' k c' xs:=by
 have hkcs:k*size≤c*size:=Nat.mul_le_mul_right _ hkc
 refine ⟨⟨b,o,o+c*size,size,xs⟩::vs,some ⟨vs.length,0,none⟩,big,?_,ZbX,(Ext.refl _).push _,?_,?_⟩
 ·intro i v hv
  rw [Zb4] at hv
  split at hv
  ·cases hv
   refine ⟨hs,cc,e,fr,hb,by simp only;omega,fun i x hi=> ?_⟩
   obtain ⟨h1,y,h2,h3⟩:=hrel i x hi
   exact ⟨h1,y,h2,h3.mono ZbX⟩
  ·exact View.ZlR ZbX (L i v hv)
 ·have hφ:ZaC (⟨b,o,o+c*size,size,xs⟩::vs) vs.length=some ⟨b,o,xs.length,o+c*size,size⟩:=by
   simp only [ZaC,Zb4,if_true,Option.map_some,View.loc]
  have:=RV.unknown (φ:=ZaC (⟨b,o,o+c*size,size,xs⟩::vs)) vs.length 0 k c _ hφ hkc Yk Yk Yk
  simpa using this
 ·right;right
  refine ⟨vs.length,0,xs,rfl,by simp [big],?_,?_,by omega,?_,.inr rfl⟩
  ·rw [ZcV];simp
  ·rw [Zdc _ _ ⟨b,o,o+c*size,size,xs⟩ (by rw [Zb4,if_pos rfl])]
   rfl
  ·rw [List.drop_zero,List.take_of_length_le Ya]
theorem Zjm {W:World} {a:Addr} {c:Nat} (hc:0 < c) {f:Nat→Value} (h:∀ i,i < c→W.cell? (a.add i)=some (f i)) :
  ∃ b o cc e fr,a=⟨b,o,none⟩∧W.heap[b]? =some (.cells cc e fr)∧o+c≤cc.size∧∀ i,i < c→cc[o+i]? =some (f i):=by
 obtain ⟨b,o,sp⟩:=a
 have c0:=h 0 hc
 have hadd0:(⟨b,o,sp⟩:Addr).add 0=⟨b,o,sp⟩:=rfl
 rw [hadd0] at c0
 unfold World.cell? at c0
 split at c0
 ·rename_i cc e fr hb
  split at c0
  ·cases c0
  ·rename_i hsp
   have hsp':sp=none:=by cases sp with
    | none=>rfl
    | some z=>simp at hsp
   subst hsp'
   have all:∀ i,i < c→cc[o+i]? =some (f i):=by
    intro i hi
    have cl:=h i hi
    rw [addr_add] at cl
    simp only [World.cell?,hb] at cl
    simpa using cl
   refine ⟨b,o,cc,e,fr,rfl,hb,?_,all⟩
   have:=(Array.getElem?_eq_some_iff.1 (all (c - 1) Ya)).1
   omega
 ·cases c0
end Go.Im
namespace Go.Proofs.YtachkofbmodnnaaGreat.L29
open Go Go.Im Go.ChangeShapes Go.WideShapes Go.ChangeAt Go.RowKit Go.Deep Go.Joins
theorem ints_at {H:Type} {enc:TypeId × Value→H} {P:Program} {t e:TypeId} {k':IntKind} (ht:P.underlying t=some (.slice e)) (he:P.underlying e=some (.int k')) (ce:P.cellsOf e=1)
  {W:World} {v:Value} {n:Nat} {y:DataW H × List MemPlace} (h:DataW.trod enc P W 0 (fun _=>true) true n t [v]=some y) :
  ∃ a k c,v= .slice a k c∧∃ l:List Int,Arg W a k c (l.map (Value.int k'))∧l.length=k∧∀ x ∈ l,(Lit.int k' x).wf=true:=by
 rcases open_ints ht he ce h with ⟨hcs,_⟩ | ⟨a',k,c,zs,hcs,_,hk,hm,hz,_,hcell,hwf⟩
 ·simp at hcs
  subst hcs
  exact ⟨_,_,_,rfl,[],⟨rfl,Nat.le_refl _,.inl ⟨rfl,rfl⟩⟩,rfl,by simp⟩
 ·simp at hcs
  subst hcs
  simp only [if_true] at hz
  refine ⟨_,_,_,rfl,zs.take k,?_,by simp;omega,fun x hx=>hwf x (List.mem_of_mem_take hx)⟩
  have:=Arg.of_cells (W:=W) (a:=a') (k:=k) (c:=c) (vals:=zs.map (Value.int k')) (by simp [hz]) hk (fun i hi=>by
   rw [hcell i Ya]
   simp [List.getD,List.getElem?_eq_getElem (show i < zs.length by omega)])
  rw [← List.map_take] at this
  exact this
structure Zc3 where
 l:List Int
 a:Option Addr
 c:Nat
def Zc3.cell (r:Zc3):Value:= .slice r.a r.l.length r.c
def Zc3.ok (W:World) (r:Zc3):Prop:=Arg W r.a r.l.length r.c (rv r.l)
theorem ZtQ (l:List Int):(rv l).all Im.atomic=true:=by simp [rv,intCells,Im.atomic]
theorem Zh6 {W:World}:∀ (rs:List Zc3) {vs0:List View},Zc4 W vs0→(∀ r ∈ rs,r.ok W)→∃ (vs:List View) (xs:List Value),Zc4 W vs∧(∀ b l,ZaC vs0 b=some l→ZaC vs b=some l)∧Ext (laid vs0) (laid vs)∧xs.length=rs.length ∧
  (∀ (i:Nat) (r:Zc3),rs[i]? =some r→∃ v,xs[i]? =some v∧Ln (laid vs) v r.l)∧∀ (i:Nat) (x:Value),xs[i]? =some x→Zak x=true∧∃ y,(rs.map Zc3.cell)[i]? =some y∧RV (ZaC vs) x y
 | [],vs0,L0,_=>⟨vs0,[],L0,fun _ _ h=>h,Ext.refl _,rfl,by intro i r h;simp at h,by intro i x h;simp at h⟩
 | r::rs,vs0,L0,hok=>by
   obtain ⟨v1,b1,d1,L1,m1,x1,r1,s1,hc⟩:=L0.line (hok r Yp) (ZtQ r.l)
   obtain ⟨vs,xs,L,m,x,hl,ln,rel⟩:=Zh6 rs L1 fun r' hr=>hok r' (by simp [hr])
   refine ⟨vs,.slice b1 r.l.length d1::xs,L,fun b l h=>m b l (m1 b l h),x1.trans x,by simp [hl],fun i q hi=> ?_,fun i y hy=> ?_⟩
   ·cases i with
    | zero =>
      cases hi
      exact ⟨_,rfl,(Ln.of s1 hc).ext x⟩
    | succ i=>exact ln i q Yad
   ·cases i with
    | zero =>
      cases hy
      exact ⟨rfl,_,rfl,r1.mono m⟩
    | succ i=>exact rel i y (by simpa using hy)
set_option maxRecDepth 100000 in
theorem ZnM {H:Type} {enc:TypeId × Value→H} {W:World} {a:Option Addr} {k c:Nat} {d:DataW H} {p:List MemPlace} (h:DataW.Trod enc Tryz.prog W 0 (fun _=>true) true 40 (.slice a k c) d p) :
  ∃ rs:List Zc3,rs.length=k∧k≤maxLen∧(∀ r ∈ rs,r.ok W)∧((a=none∧k=0∧c=0)∨(k=0∧c=0∧∃ ad,a=some ad)∨(0 < c∧k≤c∧∃ b o cc e fr,a=some ⟨b,o,none⟩∧W.heap[b]? =some (.cells cc e fr)∧o+c*1≤cc.size∧∀ (j:Nat) y,(rs.map Zc3.cell)[j]? =some y→cc[o+j]? =some y)):=by
 obtain ⟨fuel,hf⟩:=h
 rcases open_slice Tryz.underlying40 hf with ⟨hcs,_⟩ | ⟨a',len,cap,m,n',D,Pl,hcs,_,hlc,hcm,hm,_,hx⟩
 ·simp [Value.cells] at hcs
  obtain ⟨rfl,rfl,rfl⟩:=hcs
  exact ⟨[],rfl,by simp [maxLen],by simp,.inl ⟨rfl,rfl,rfl⟩⟩
 ·simp [Value.cells] at hcs
  obtain ⟨rfl,rfl,rfl⟩:=hcs
  simp only [if_true] at hm
  subst hm
  have ce:Tryz.prog.cellsOf 22=1:=Yj
  have each:∀ i,i < m→∃ r:Zc3,r.ok W∧W.cell? (a'.add i)=some r.cell:=by
   intro i hi
   obtain ⟨cs',h1,h2⟩:=hx i hi
   rw [ce] at h1
   obtain ⟨_,hlen,hcell⟩:=World.cells?_some h1
   match cs',hlen with
   | [v0],_ =>
     have e0:=hcell 0 Ya
     rw [add_add] at e0
     obtain ⟨a2,k2,c2',rfl,ys,B,hy,_⟩:=ints_at Tryz.underlying22 Tryz.underlying21 Yj h2
     subst hy
     exact ⟨⟨ys,a2,c2'⟩,B,by simpa [Zc3.cell] using e0⟩
  have:Inhabited Zc3:=⟨⟨[],none,0⟩⟩
  obtain ⟨q,hq⟩:=choose_lt each
  obtain ⟨l,hl⟩:∃ l,l=(List.range m).map q:=⟨_,rfl⟩
  have hll:l.length=m:=by simp [hl]
  have hget:∀ i,i < m→l[i]? =some (q i):=by
   intro i hi
   rw [hl,List.getElem?_map,List.getElem?_range hi]
   rfl
  have hok:∀ r ∈ l,r.ok W:=by
   intro r hr
   rw [hl] at hr
   obtain ⟨i,hi,rfl⟩:=List.mem_map.1 hr
   exact (hq i (List.mem_range.1 hi)).1
  refine ⟨l.take k,by simp;omega,by omega,fun r hr=>hok r (List.mem_of_mem_take hr),?_⟩
  by_cases h0:m=0
  ·subst h0
   exact .inr (.inl ⟨by omega,rfl,a',rfl⟩)
  ·refine .inr (.inr ⟨by omega,hlc,?_⟩)
   obtain ⟨b,o,cc,e,fr,rfl,hb,hsz,hall⟩:=Zjm (W:=W) (a:=a') (c:=m) Ya (f:=fun j=>(q j).cell) (fun j hj=>(hq j hj).2)
   refine ⟨b,o,cc,e,fr,rfl,hb,by omega,fun j y hy=> ?_⟩
   rw [List.getElem?_map,List.getElem?_take] at hy
   split at hy
   ·rename_i hjk
    rw [hget j Ya] at hy
    cases hy
    exact hall j Ya
   ·cases hy
end Go.Proofs.YtachkofbmodnnaaGreat.L29
