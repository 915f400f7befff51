/- Proved here: parts of the way to BDefnChars (BD2 BD3 BD4 BM0 BM6 BM8); no condition beyond those that each theorem names. -/
import Derived.Test.YtachkofbmodnnaaGreatDoorU19
import Derived.Test.YtachkofbmodnnaaGreatDoorU14
set_option linter.unusedSimpArgs false
set_option linter.unusedVariables false
namespace Go.Proofs.YtachkofbmodnnaaGreatDoor.D2
open Go Go.Im Go.Im.Limbs Go.Im.Lexing Go.Im.Heads Go.Im.Editing Go.Im.Defn Go.Proofs Go.RowKit Hd N19 N23 R9 H2 H3 H5 H6 H7 H8 L1 E2
set_option maxRecDepth 100000
theorem mem_take {s:ByteArray} {tk:List ByteArray} {i:Nat} {y:ByteArray} (hy:tk[i]? =some y) (h:s ∉ tk.take i) (hne:¬ s=y):s ∉ tk.take (i+1):=by
 rw [List.take_add_one,hy,List.mem_append]
 simp [h,hne]
theorem index_run (tk:List ByteArray) (s:ByteArray) (h:Heap) {a:Option Addr} {c:Nat} (sl:Sl h 1 a tk.length c (sv tk)) (hm:tk.length≤1000000):Runs K 82 #[.slice a tk.length c,.string s] h fun r w=>h=w∧∃ x:Int,r= .int .i64 x∧(0≤x↔s ∈ tk):=by
 refine Runs.of Kok (Does.intro rfl (by decide +kernel) Tryz.func82 rfl ?_)
 simp +decide only [go_sem,WR,WS]
 refine W_loop (α:=Nat) (fun i e w=>i≤tk.length∧e.size=19∧h=w∧e.get 0= .slice a tk.length c∧e.get 1= .string s∧e.get 7= .int .i64 ((tk.length:Nat):Int)∧e.get 8= .int .i64 (i:Int)∧s ∉ tk.take i) (fun i=>tk.length - i) 0 ?_ ?_
 ·exact ⟨Nat.zero_le _,by simp +decide only [go_sem],rfl,by simp +decide only [go_sem],by simp +decide only [go_sem],by simp +decide only [go_sem],by simp +decide only [go_sem];rfl,by simp⟩
 rintro i e w ⟨hi,hsz,hw,e0,e1,e7,e8,hni⟩ next
 subst hw
 by_cases hil:(i:Int) < ((tk.length:Nat):Int)
 ·obtain ⟨b,o,cs,rfl,q2,q3,q4⟩:=text_at sl (i:=i) (by omega)
  have hy:tk[i]? =some tk[i]:=List.getElem?_eq_getElem (by omega)
  have c0:(0:Int)≤(i:Int):=by omega
  have i1:IntKind.i64.wrap ((i:Int)+1)=((i+1:Nat):Int):=by rw [wrap_i64 (by omega) (by omega)];omega
  by_cases hs:s=tk[i]
  ·simp +decide only [go_sem,WR,WS,hsz,e0,e1,e7,e8,hil,c0,Int.toNat_natCast,q3,q4,← hs]
   have hmem:s ∈ tk:=by rw [hs];exact List.getElem_mem _
   first | exact ⟨rfl,_,rfl,iff_of_true c0 hmem⟩ | exact ⟨_,rfl,iff_of_true c0 hmem⟩ | simp [hmem,c0]
  ·simp +decide only [go_sem,WR,WS,hsz,e0,e1,e7,e8,hil,c0,Int.toNat_natCast,q3,q4,hs,i1]
   exact next (i+1) _ _ ⟨by omega,by simp +decide only [go_sem,hsz],rfl,by simp +decide only [go_sem,hsz,e0],by simp +decide only [go_sem,hsz,e1],by simp +decide only [go_sem,hsz,e7],by simp +decide only [go_sem,hsz],mem_take hy hni hs⟩ (by omega)
 ·simp +decide only [go_sem,WR,WS,hsz,e0,e1,e7,e8,hil]
  have:¬ s ∈ tk:=by rwa [List.take_of_length_le (by omega)] at hni
  simp [this]
theorem contains_run (tk:List ByteArray) (s:ByteArray) (h:Heap) {a:Option Addr} {c:Nat} (sl:Sl h 1 a tk.length c (sv tk)) (hm:tk.length≤1000000):Runs K 38 #[.slice a tk.length c,.string s] h fun r w=>h=w∧r= .bool (decide (s ∈ tk)):=by
 refine Runs.of Kok (Does.intro rfl (by decide +kernel) Tryz.func38 rfl ?_)
 simp +decide only [go_sem,WR,WS]
 refine W_call Kok (Nat.le_refl _) (index_run tk s h sl hm) fun r w x hr=> ?_
 obtain ⟨hw,y,rfl,hy⟩:=hr
 subst hw
 simp +decide only [go_sem,WR,WS]
 congr 2
 exact propext hy
set_option maxHeartbeats 4000000 in
theorem make_run (rows:List ByteArray) (h:Heap) {a:Option Addr} {c:Nat} (s:Sl h 1 a rows.length c (sv rows)) (hn:rows.length≤5000) (hz:∀ r ∈ rows,r.size≤100000) :
  Runs K 9 #[.slice a rows.length c] h fun r w=>∃ v,r= .tuple #[v,.int .i64 (makeS rows).2]∧DV w v (makeS rows).1:=by
 refine Runs.of Kok (Does.intro rfl (by decide +kernel) Tryz.func9 rfl ?_)
 obtain ⟨w0,e0,x0,hs0,z0⟩:=lay1 h (.cells [.string ByteArray.empty,.string ByteArray.empty,.string ByteArray.empty,.string ByteArray.empty,.slice none 0 0,.slice none 0 0,.slice none 0 0] 7)
 have j0:h.size≤h.size:=Nat.le_refl _
 have fin0:∀ (w:Heap) (C:List Value),Ext h w→∃ w',w.set h.size (.cells C 7)=w'∧w'.get h.size= .cells C 7∧w'.size=w.size∧∀ b,b≠h.size→w'.get b=w.get b:=fun w C xw=>by
  obtain ⟨w1,e1,x1,hs1,g1,k1⟩:=put1 xw j0 (.cells C 7)
  exact ⟨w1,e1,g1,hs1,k1⟩
 have zd:∀ w,DV w (.agg #[.string ByteArray.empty,.string ByteArray.empty,.string ByteArray.empty,.string ByteArray.empty,.slice none 0 0,.slice none 0 0,.slice none 0 0]) dZ:=fun w=>DV.zero w
 match rows,s,hn,hz with
 | [],s,hn,hz =>
   obtain ⟨w1,e1,g1,hs1,k1⟩:=fin0 w0 [.string ByteArray.empty,.string ByteArray.empty,.string ByteArray.empty,.string ByteArray.empty,.slice none 0 0,.slice none 0 0,.slice none 0 0] x0
   simp +decide only [go_sem,WR,WS,e0,List.length_nil,Int.natCast_zero,z0,j0,e1,g1]
   exact ⟨_,rfl,zd _⟩
 | r0::rs,s,hn,hz =>
 have hl0:(r0::rs).length=rs.length+1:=rfl
 have n0:¬ (((r0::rs).length:Nat):Int)=0:=by rw [hl0];omega
 have n1:(0:Int) < (((r0::rs).length:Nat):Int):=by rw [hl0];omega
 obtain ⟨b,o,cs,rfl,q2,q3,q4⟩:=text_at s (i:=0) (by omega)
 obtain ⟨L,rfl⟩:=text_of r0
 rw [Nat.add_zero] at q4
 have q4':cs[o]? =some (.string (text L)):=q4
 have q3':(w0.get b).read= .cells cs 1:=by rw [x0.2 b q2];exact q3
 have hr0:=hz (text L) (by simp)
 obtain ⟨l,hl⟩:∃ l,l=runesI (text L):=⟨_,rfl⟩
 have hll:l.length≤100000:=by rw [hl];exact Nat.le_trans (runesI_len _) hr0
 obtain ⟨w1,e1,x1,hs1,z1⟩:=lay1 w0 (.cells (rv l) 1)
 have x01:=x0.trans x1
 have t1:Ln w1 (.slice (some ⟨w0.size,0,none⟩) l.length big) l:=Ln.new (by omega) z1
 have ic:=icvt_all (l:=L) (h:=w0)
 rw [← hl,e1] at ic
 clear q4
 generalize hN:(text L::rs).length=N at *
 simp +decide only [go_sem,WR,WS,e0,n0,n1,show Int.toNat 0=0 from rfl,q3',q4',ic]
 refine W_call Kok x01.1 (parse_run l w1 t1.tx (by omega)) fun r w2 x2 hr=> ?_
 obtain ⟨pa,pc,rfl,s2⟩:=hr
 have x02:=x01.trans x2
 have hms:makeS (text L::rs)=if (hdp l).2=true then linesS (hdp l).1 rs 1 [] [] (hdp l).1.all else (dZ,0):=by rw [makeS,← hl]
 have Gx:=hdp_good l
 generalize hX:hdp l=X at s2 hms Gx
 obtain ⟨x,ok⟩:=X
 simp only at s2 hms Gx
 obtain ⟨w3,e3,x3,hs3,z3⟩:=lay1 w2 (.cells [.string ByteArray.empty,.string ByteArray.empty,.string ByteArray.empty,.string ByteArray.empty,.slice none 0 0] 5)
 obtain ⟨w4,e4,x4,hs4,z4,k4⟩:=put1 x3 (Nat.le_refl _) (.cells (H2.hl x (.slice pa x.ls.length pc)) 5)
 have x04:=x02.trans x4
 have j2:h.size≤w2.size:=x02.1
 have g0:w4.get h.size=_:=((x1.trans (x2.trans x4)).2 _ (by omega)).trans z0
 simp only [H2.hl] at e4 z4
 cases ok with
 | false =>
   obtain ⟨w5,e5,g5,hs5,k5⟩:=fin0 w4 [.string ByteArray.empty,.string ByteArray.empty,.string ByteArray.empty,.string ByteArray.empty,.slice none 0 0,.slice none 0 0,.slice none 0 0] x04
   simp +decide only [go_sem,WR,WS,H2.hl,e3,z3,j2,e4,g0,j0,e5,g5]
   rw [hms]
   exact ⟨_,rfl,zd _⟩
 | true =>
   obtain ⟨hv,hhv⟩:∃ hv,hv=Value.slice pa x.ls.length pc:=⟨_,rfl⟩
   have hok:cellOK hv=true:=by rw [hhv];rfl
   have few:=Gx.few
   have s4:=s2.ext x4
   obtain ⟨w5,e5,x5,hs5,z5⟩:=lay1 w4 (.cells [.string ByteArray.empty,.string ByteArray.empty,.string ByteArray.empty,.string ByteArray.empty,.slice none 0 0,.slice none 0 0,.slice none 0 0] 7)
   obtain ⟨w6,e6,x6,hs6,z6,k6⟩:=put1 x5 (Nat.le_refl _) (.cells (dl x hv (.slice none 0 0) (.slice none 0 0)) 7)
   have x06:=x04.trans x6
   have j4:h.size≤w4.size:=x04.1
   have nmr:=hnames_run x w6 (s4.ext x6) (by omega)
   simp only [H2.hl,← hhv] at e4 z4 nmr
   simp only [dl] at e6
   have z46:w6.get w2.size=_:=(x6.2 _ (by omega)).trans z4
   simp +decide only [go_sem,WR,WS,H2.hl,← hhv,hok,e3,z3,j2,e4,z4,e5,z5,j4,e6,z46]
   refine W_call Kok x06.1 nmr fun r w7 x7 hr=> ?_
   have z47:w7.get w2.size=_:=(x7.2 _ (by omega)).trans z46
   obtain ⟨w8,e8,x8,hs8,z8⟩:=lay1 w7 (.cells [.string x.nm] 1)
   have x48:=x6.trans (x7.trans x8)
   have hnl:=names_len x
   obtain ⟨w9,e9,o9,hs9,x9,k9⟩:=app_other (low:=h.size) (bytes:=16) (k:=1) (new:=[.string x.nm]) j4 x48 ((hr.ext x8).keep x6.1 fun b hb _=>⟨rfl,hb⟩) (by omega) (by omega) rfl (by omega) (by omega)
   obtain ⟨ra,rc,rfl⟩:=hr.shape
   have hall:x.all.length=x.names.length+1:=by simp [HdT.all]
   have hrq:vblk (.slice ra x.names.length rc)≠some w4.size:=by
    intro hh
    have:=(own_lh hr hh).1
    omega
   have S9:DS w4 w4.size w9 x hv (.slice none 0 0) (.slice none 0 0) (.slice (some ⟨w8.size,0,none⟩) (x.names.length+1) big) [] [] x.all:=by
    have m7:=x7.1
    have m8:=x8.1
    refine ⟨x9,Nat.le_refl _,by omega,?_,Own.nil _ _ _,Own.nil _ _ _,?_,fun b hb=>by simp [vblk] at hb⟩
    ·rw [k9 _ (by omega) hrq,(x7.trans x8).2 _ (by omega),z6]
    ·rw [hall]
     have:sv x.all=sv x.names++[.string x.nm]:=by rw [HdT.all,sv_append];rfl
     rw [this]
     exact o9
   have hrs:N - 1=rs.length:=by rw [← hN];rfl
   obtain ⟨ca,cc,f1,src⟩:=Sl.cut (x04.trans S9.ext) (by omega) s (lo:=some (.int .i64 1)) (hi:=none) (l:=1) (u:=N) rfl rfl (by omega) (Nat.le_refl _)
   rw [hrs] at f1
   have src':Sl h 1 ca rs.length cc (sv rs):=by
    rw [hrs,Nat.mul_one,Nat.mul_one] at src
    have e:((sv (text L::rs)).drop 1).take rs.length=sv rs:=by rw [sv,List.map_cons,List.drop_one,List.tail_cons,List.take_of_length_le (by simp)];rfl
    rw [e] at src
    exact src
   have hsb:h.size < w4.size:=by omega
   simp +decide only [go_sem,WR,WS,z47,e8,z8,e9,f1]
   refine W_loop (α:=Nat × Value × Value × Value × List ByteArray × List (ByteArray × Nat) × List ByteArray) (fun k e W=>k.1≤rs.length∧e.size=98∧DS w4 w4.size W x hv k.2.1 k.2.2.1 k.2.2.2.1 k.2.2.2.2.1 k.2.2.2.2.2.1 k.2.2.2.2.2.2∧e.get 2= .pointer (some ⟨h.size,0,none⟩)∧e.get 6= .pointer (some ⟨w4.size,0,none⟩)∧e.get 7=k.2.2.2.1 ∧
    e.get 39= .slice ca rs.length cc∧e.get 40= .int .i64 ((rs.length:Nat):Int)∧e.get 41= .int .i64 (k.1:Int)∧linesS x rs 1 [] [] x.all=linesS x (rs.drop k.1) (k.1+1) k.2.2.2.2.1 k.2.2.2.2.2.1 k.2.2.2.2.2.2∧k.2.2.2.2.1.length≤k.1∧k.2.2.2.2.2.1.length≤k.1∧k.2.2.2.2.2.2.length≤1000+k.1)
    (fun k=>rs.length - k.1) (0,.slice none 0 0,.slice none 0 0,.slice (some ⟨w8.size,0,none⟩) (x.names.length+1) big,[],[],x.all) ?_ ?_
   ·exact ⟨Nat.zero_le _,by simp +decide only [go_sem],S9,by simp +decide only [go_sem],by simp +decide only [go_sem],by simp +decide only [go_sem],by simp +decide only [go_sem],by simp +decide only [go_sem],by simp +decide only [go_sem];rfl,by simp,by simp,by simp,by simp only [hall];omega⟩
   clear e9 o9 x9 k9 S9 f1 e8 z8 x8 hs8 hs9
   rintro ⟨k,lv,bv,tv,ls,lb,tk⟩ e W ⟨hk,hsz,S,g2,g6,g7,g39,g40,g41,hlin,hl1,hl2,hl3⟩ next
   simp only at hk S g7 g41 hlin hl1 hl2 hl3
   have xW:=x04.trans S.ext
   have gz:W.get h.size=_:=(S.ext.2 _ hsb).trans g0
   have hrn:rs.length≤5000:=by omega
   by_cases hkl:(k:Int) < ((rs.length:Nat):Int)
   case neg =>
    have hke:rs.drop k=[]:=List.drop_of_length_le (by omega)
    rw [hke,linesS] at hlin
    have V:DV W (.agg (dl x hv lv bv).toArray) ⟨x,ls,lb⟩:=by
     have S':=S
     rw [hhv] at S' ⊢
     exact S'.value s4
    have g:=S.g
    obtain ⟨w',ew,gw,_⟩:=fin0 W (dl x hv lv bv) xW
    have V':=DV.put V gz ew
    simp only [dl] at g ew gw
    have hol:cellOK lv=true:=by obtain ⟨a1,c1,hh⟩:=S.ol.shape;rw [hh];rfl
    have hob:cellOK bv=true:=by obtain ⟨a1,c1,hh⟩:=S.ob.shape;rw [hh];rfl
    simp +decide only [go_sem,WR,WS,hsz,g2,g6,g7,g39,g40,g41,hkl,g,gz,j0,hok,hol,hob,ew,gw]
    rw [hms,if_pos rfl,hlin]
    exact ⟨_,rfl,V'⟩
   obtain ⟨b',o',cs',rfl,q2',q3',q4'⟩:=text_at (src'.ext xW) (i:=k) (by omega)
   obtain ⟨r,hr⟩:∃ r,r=rs[k]:=⟨_,rfl⟩
   have hdr:rs.drop k=r::rs.drop (k+1):=by rw [hr];exact List.drop_eq_getElem_cons (by omega)
   rw [← hr] at q4'
   have hrz:=hz r (by rw [hr];simp)
   rw [hdr] at hlin
   obtain ⟨L',rfl⟩:=text_of r
   obtain ⟨l',hl'⟩:∃ l',l'=runesI (text L'):=⟨_,rfl⟩
   have hll':l'.length≤100000:=by rw [hl'];exact Nat.le_trans (runesI_len _) hrz
   obtain ⟨u1,f1,y1,hs1',z1'⟩:=lay1 W (.cells (rv l') 1)
   have t1':Ln u1 (.slice (some ⟨W.size,0,none⟩) l'.length big) l':=Ln.new (by omega) z1'
   have ic':=icvt_all (l:=L') (h:=W)
   rw [← hl',f1] at ic'
   have c0:(0:Int)≤(k:Int):=by omega
   have k1:IntKind.i64.wrap ((k:Int)+1)=((k+1:Nat):Int):=by rw [wrap_i64 (by omega) (by omega)];omega
   have S1:=S.more y1
   simp +decide only [go_sem,WR,WS,hsz,g2,g6,g7,g39,g40,g41,hkl,c0,Int.toNat_natCast,q3',q4',ic']
   refine W_call Kok (x04.trans S1.ext).1 (trim_run l' u1 t1' (by omega)) fun r u2 y2 hr2=> ?_
   obtain ⟨hw,tm⟩:=hr2
   have hw:=hw.symm
   subst hw
   obtain ⟨m,hm⟩:∃ m,m=trimS l':=⟨_,rfl⟩
   have hmm:trimS (runesI (text L'))=m:=by rw [hm,hl']
   rw [← hm] at tm
   have hml:m.length≤100000:=by rw [hm];exact Nat.le_trans (trim_len l') hll'
   obtain ⟨ma,mc,rfl⟩:=tm.open
   simp +decide only [go_sem,WR,WS,hsz]
   refine W_call Kok (x04.trans S1.ext).1 (lex_run u1 tm.tx) fun r u3 y3 hr3=> ?_
   have S3:=S1.more y3
   have gz3:u3.get h.size=_:=(S3.ext.2 _ hsb).trans g0
   have xz:Ext h u3:=x04.trans S3.ext
   obtain ⟨w',ew,gw,_⟩:=fin0 u3 [.string ByteArray.empty,.string ByteArray.empty,.string ByteArray.empty,.string ByteArray.empty,.slice none 0 0,.slice none 0 0,.slice none 0 0] xz
   rcases hr3 with ⟨hlex,rfl⟩ | ⟨xs,xa,xc,hlex,hA,hxl,rfl,sx⟩
   ·rw [lines_bad (.inl (by rw [hmm,hlex];rfl))] at hlin
    simp +decide only [go_sem,WR,WS,hsz,g2,g6,g7,g39,g40,g41,gz3,j0,ew,gw,k1]
    rw [hms,if_pos rfl,hlin]
    exact ⟨_,rfl,zd _⟩
   by_cases h200:(200:Int)≤(k:Int)
   ·rw [lines_bad (.inr (by omega))] at hlin
    simp +decide only [go_sem,WR,WS,hsz,g2,g6,g7,g39,g40,g41,h200,gz3,j0,ew,gw,k1]
    rw [hms,if_pos rfl,hlin]
    exact ⟨_,rfl,zd _⟩
   have hok:¬ ((lex (trimS (runesI (text L')))).isNone=true∨200 < k+1):=by
    rw [hmm,hlex]
    simp
    omega
   simp +decide only [go_sem,WR,WS,hsz,h200]
   refine W_call Kok xz.1 (label_run m u3 ((tm.ext y3).tx) (by omega)) fun r u4 y4 hr4=> ?_
   obtain ⟨uu,rfl,_⟩:=hr4
   have S4:=S3.more y4
   have tm4:=tm.ext (y3.trans y4)
   obtain ⟨lab,hlab⟩:∃ lab,lab=(labelL m).1:=⟨_,rfl⟩
   rw [← hlab]
   have xz4:Ext h u4:=x04.trans S4.ext
   by_cases hE:lab=E
   ·have hE':lab=⟨#[]⟩:=hE
    rw [lines_none hok (by rw [hmm,← hlab];exact hE),hmm] at hlin
    have is4:=tm4.islice
    obtain ⟨v1,v2,v3,a1,b1,a2,b2,a3,S5⟩:=S4.line (low:=h.size) j4 (runesBytes m) (by omega)
    have g4:=S4.g
    simp only [dl] at g4 b2 a3
    simp +decide only [go_sem,WR,WS,hsz,g2,g6,g7,g39,g40,g41,hE',g4,is4,icvs_rv,a1,b1,a2,b2,a3,j4,k1]
    exact next (k+1,.slice (some ⟨v1.size,0,none⟩) (ls.length+1) big,bv,tv,ls++[runesBytes m],lb,tk) _ _ ⟨by simp only;omega,by simp +decide only [go_sem,hsz],S5,by simp +decide only [go_sem,hsz,g2],by simp +decide only [go_sem,hsz,g6],by simp +decide only [go_sem,hsz,g7],by simp +decide only [go_sem,hsz,g39],by simp +decide only [go_sem,hsz,g40],by simp +decide only [go_sem,hsz],hlin,by simp;omega,by simp only;omega,by simp only;omega⟩ (by simp only;omega)
   have hE':¬ lab=⟨#[]⟩:=hE
   obtain ⟨ta,tc,rfl⟩:=S4.ot.shape
   simp +decide only [go_sem,WR,WS,hsz,g2,g6,g7,hE']
   refine W_call Kok xz4.1 (contains_run tk lab u4 S4.ot.sl (by omega)) fun r u5 y5 hr5=> ?_
   obtain ⟨hw,rfl⟩:=hr5
   subst hw
   by_cases hmem:lab ∈ tk
   ·rw [lines_twice hok (by rw [hmm,← hlab];exact hE) (by rw [hmm,← hlab];exact hmem)] at hlin
    have gz4:u4.get h.size=_:=(S4.ext.2 _ hsb).trans g0
    obtain ⟨w',ew,gw,_⟩:=fin0 u4 [.string ByteArray.empty,.string ByteArray.empty,.string ByteArray.empty,.string ByteArray.empty,.slice none 0 0,.slice none 0 0,.slice none 0 0] xz4
    simp +decide only [go_sem,WR,WS,hsz,g2,g6,g7,g39,g40,g41,hmem,gz4,j0,ew,gw,k1]
    rw [hms,if_pos rfl,hlin]
    exact ⟨_,rfl,zd _⟩
   rw [lines_more hok (by rw [hmm,← hlab];exact hE) (by rw [hmm,← hlab];exact hmem),hmm,← hlab] at hlin
   obtain ⟨v1,v2,a1,b1,a2,S5,r5⟩:=S4.take (low:=h.size) j4 lab (by omega)
   obtain ⟨v3,v4,v5,a3,b3,a4,b4,a5,S6,r6⟩:=S5.label (low:=h.size) j4 lab (k+1) (by omega)
   have is6:=((RK.of (y3.trans y4)).trans (r5.trans r6)).islice tm
   obtain ⟨v6,v7,v8,a6,b6,a7,b7,a8,S7⟩:=S6.line (low:=h.size) j4 (runesBytes m) (by omega)
   have g5:=S5.g
   have g6':=S6.g
   simp only [dl] at g5 g6' b4 a5 b7 a8
   simp +decide only [go_sem,WR,WS,hsz,g2,g6,g7,g39,g40,g41,hmem,a1,b1,a2,g5,a3,b3,a4,b4,a5,g6',is6,icvs_rv,a6,b6,a7,b7,a8,j4,k1]
   exact next (k+1,.slice (some ⟨v6.size,0,none⟩) (ls.length+1) big,.slice (some ⟨v3.size,0,none⟩) (lb.length+1) big,.slice (some ⟨v1.size,0,none⟩) (tk.length+1) big,ls++[runesBytes m],lb++[(lab,k+1)],tk++[lab]) _ _ ⟨by simp only;omega,by simp +decide only [go_sem,hsz],S7,by simp +decide only [go_sem,hsz,g2],by simp +decide only [go_sem,hsz,g6],by simp +decide only [go_sem,hsz],by simp +decide only [go_sem,hsz,g39],by simp +decide only [go_sem,hsz,g40],by simp +decide only [go_sem,hsz],hlin,by simp;omega,by simp;omega,by simp;omega⟩ (by simp only;omega)
end Go.Proofs.YtachkofbmodnnaaGreatDoor.D2
namespace Go.Proofs.YtachkofbmodnnaaGreatDoor.D3
open Go Go.Im Go.Im.Limbs Go.Im.Lexing Go.Im.Heads Go.Im.Editing Go.Im.Defn Go.Proofs Go.RowKit Hd N19 N23 R9 H2 H3 H5 H6 H7 H8 L1 E2 D2
set_option maxRecDepth 100000
theorem has_run (tk:List ByteArray) (s:ByteArray) (h:Heap) {a:Option Addr} {c:Nat} (sl:Sl h 1 a tk.length c (sv tk)) (hm:tk.length≤1000000):Runs K 44 #[.slice a tk.length c,.string s] h fun r w=>h=w∧r= .bool (decide (s ∈ tk)):=by
 refine Runs.of Kok (Does.intro rfl (by decide +kernel) Tryz.func44 rfl ?_)
 simp +decide only [go_sem,WR,WS]
 refine W_loop (α:=Nat) (fun i e w=>i≤tk.length∧e.size=18∧h=w∧e.get 0= .slice a tk.length c∧e.get 1= .string s∧e.get 5= .int .i64 (i:Int)∧s ∉ tk.take i) (fun i=>tk.length - i) 0 ?_ ?_
 ·exact ⟨Nat.zero_le _,by simp +decide only [go_sem],rfl,by simp +decide only [go_sem],by simp +decide only [go_sem],by simp +decide only [go_sem];rfl,by simp⟩
 rintro i e w ⟨hi,hsz,hw,e0,e1,e5,hni⟩ next
 subst hw
 by_cases hil:(i:Int) < ((tk.length:Nat):Int)
 ·obtain ⟨b,o,cs,rfl,q2,q3,q4⟩:=text_at sl (i:=i) (by omega)
  have hy:tk[i]? =some tk[i]:=List.getElem?_eq_getElem (by omega)
  have c0:(0:Int)≤(i:Int):=by omega
  have i1:IntKind.i64.wrap ((i:Int)+1)=((i+1:Nat):Int):=by rw [wrap_i64 (by omega) (by omega)];omega
  by_cases hs:tk[i]=s
  ·simp +decide only [go_sem,WR,WS,hsz,e0,e1,e5,hil,c0,Int.toNat_natCast,q3,q4,hs]
   have:s ∈ tk:=by rw [← hs];exact List.getElem_mem _
   simp [this]
  ·simp +decide only [go_sem,WR,WS,hsz,e0,e1,e5,hil,c0,Int.toNat_natCast,q3,q4,hs,i1]
   exact next (i+1) _ _ ⟨by omega,by simp +decide only [go_sem,hsz],rfl,by simp +decide only [go_sem,hsz,e0],by simp +decide only [go_sem,hsz,e1],by simp +decide only [go_sem,hsz],mem_take hy hni (fun hh=>hs hh.symm)⟩ (by omega)
 ·simp +decide only [go_sem,WR,WS,hsz,e0,e1,e5,hil]
  have:¬ s ∈ tk:=by rwa [List.take_of_length_le (by omega)] at hni
  simp [this]
set_option maxHeartbeats 4000000 in
theorem rmake_run (rows:List ByteArray) (h:Heap) {a:Option Addr} {c:Nat} (s:Sl h 1 a rows.length c (sv rows)) (hn:rows.length≤5000) (hz:∀ r ∈ rows,r.size≤100000) :
  Runs K 10 #[.slice a rows.length c] h fun r w=>∃ v,r= .tuple #[v,.int .i64 (makeS rows).2]∧DV w v (makeS rows).1:=by
 refine Runs.of Kok (Does.intro rfl (by decide +kernel) Tryz.func10 rfl ?_)
 obtain ⟨w0,e0,x0,hs0,z0⟩:=lay1 h (.cells [.string ByteArray.empty,.string ByteArray.empty,.string ByteArray.empty,.string ByteArray.empty,.slice none 0 0,.slice none 0 0,.slice none 0 0] 7)
 have j0:h.size≤h.size:=Nat.le_refl _
 have fin0:∀ (w:Heap) (C:List Value),Ext h w→∃ w',w.set h.size (.cells C 7)=w'∧w'.get h.size= .cells C 7∧w'.size=w.size∧∀ b,b≠h.size→w'.get b=w.get b:=fun w C xw=>by
  obtain ⟨w1,e1,x1,hs1,g1,k1⟩:=put1 xw j0 (.cells C 7)
  exact ⟨w1,e1,g1,hs1,k1⟩
 have zd:∀ w,DV w (.agg #[.string ByteArray.empty,.string ByteArray.empty,.string ByteArray.empty,.string ByteArray.empty,.slice none 0 0,.slice none 0 0,.slice none 0 0]) dZ:=fun w=>DV.zero w
 match rows,s,hn,hz with
 | [],s,hn,hz =>
   obtain ⟨w1,e1,g1,hs1,k1⟩:=fin0 w0 [.string ByteArray.empty,.string ByteArray.empty,.string ByteArray.empty,.string ByteArray.empty,.slice none 0 0,.slice none 0 0,.slice none 0 0] x0
   simp +decide only [go_sem,WR,WS,e0,List.length_nil,Int.natCast_zero,z0,j0,e1,g1]
   exact ⟨_,rfl,zd _⟩
 | r0::rs,s,hn,hz =>
 have hl0:(r0::rs).length=rs.length+1:=rfl
 have n0:¬ (((r0::rs).length:Nat):Int)=0:=by rw [hl0];omega
 have n1:(0:Int) < (((r0::rs).length:Nat):Int):=by rw [hl0];omega
 obtain ⟨b,o,cs,rfl,q2,q3,q4⟩:=text_at s (i:=0) (by omega)
 obtain ⟨L,rfl⟩:=text_of r0
 rw [Nat.add_zero] at q4
 have q4':cs[o]? =some (.string (text L)):=q4
 have q3':(w0.get b).read= .cells cs 1:=by rw [x0.2 b q2];exact q3
 have hr0:=hz (text L) (by simp)
 obtain ⟨l,hl⟩:∃ l,l=runesI (text L):=⟨_,rfl⟩
 have hll:l.length≤100000:=by rw [hl];exact Nat.le_trans (runesI_len _) hr0
 obtain ⟨w1,e1,x1,hs1,z1⟩:=lay1 w0 (.cells (rv l) 1)
 have x01:=x0.trans x1
 have t1:Ln w1 (.slice (some ⟨w0.size,0,none⟩) l.length big) l:=Ln.new (by omega) z1
 have ic:=icvt_all (l:=L) (h:=w0)
 rw [← hl,e1] at ic
 have hcs':∀ k (hk:k < rs.length),cs[o+(k+1)]? =some (.string rs[k]):=fun k hk=>by
  obtain ⟨b2,o2,cs2,hq,p2,p3,p4⟩:=text_at s (i:=k+1) (by rw [hl0];omega)
  cases hq
  rw [q3] at p3
  cases p3
  exact p4
 clear q4
 generalize hN:(text L::rs).length=N at *
 simp +decide only [go_sem,WR,WS,e0,n0,n1,show Int.toNat 0=0 from rfl,q3',q4',ic]
 refine W_call Kok x01.1 (rparse_run l w1 t1.tx (by omega)) fun r w2 x2 hr=> ?_
 obtain ⟨pa,pc,rfl,s2⟩:=hr
 have x02:=x01.trans x2
 have hms:makeS (text L::rs)=if (hdp l).2=true then linesS (hdp l).1 rs 1 [] [] (hdp l).1.all else (dZ,0):=by rw [makeS,← hl]
 have Gx:=hdp_good l
 generalize hX:hdp l=X at s2 hms Gx
 obtain ⟨x,ok⟩:=X
 simp only at s2 hms Gx
 obtain ⟨w3,e3,x3,hs3,z3⟩:=lay1 w2 (.cells [.string ByteArray.empty,.string ByteArray.empty,.string ByteArray.empty,.string ByteArray.empty,.slice none 0 0] 5)
 obtain ⟨w4,e4,x4,hs4,z4,k4⟩:=put1 x3 (Nat.le_refl _) (.cells (H2.hl x (.slice pa x.ls.length pc)) 5)
 have x04:=x02.trans x4
 have j2:h.size≤w2.size:=x02.1
 have g0:w4.get h.size=_:=((x1.trans (x2.trans x4)).2 _ (by omega)).trans z0
 simp only [H2.hl] at e4 z4
 cases ok with
 | false =>
   obtain ⟨w5,e5,g5,hs5,k5⟩:=fin0 w4 [.string ByteArray.empty,.string ByteArray.empty,.string ByteArray.empty,.string ByteArray.empty,.slice none 0 0,.slice none 0 0,.slice none 0 0] x04
   simp +decide only [go_sem,WR,WS,H2.hl,e3,z3,j2,e4,g0,j0,e5,g5]
   rw [hms]
   exact ⟨_,rfl,zd _⟩
 | true =>
   obtain ⟨hv,hhv⟩:∃ hv,hv=Value.slice pa x.ls.length pc:=⟨_,rfl⟩
   have hok:cellOK hv=true:=by rw [hhv];rfl
   have few:=Gx.few
   have s4:=s2.ext x4
   obtain ⟨w5,e5,x5,hs5,z5⟩:=lay1 w4 (.cells [.string ByteArray.empty,.string ByteArray.empty,.string ByteArray.empty,.string ByteArray.empty,.slice none 0 0,.slice none 0 0,.slice none 0 0] 7)
   obtain ⟨w6,e6,x6,hs6,z6,k6⟩:=put1 x5 (Nat.le_refl _) (.cells (dl x hv (.slice none 0 0) (.slice none 0 0)) 7)
   have x06:=x04.trans x6
   have j4:h.size≤w4.size:=x04.1
   have nmr:=rnames_run x w6 (s4.ext x6) (by omega)
   simp only [H2.hl,← hhv] at e4 z4 nmr
   simp only [dl] at e6
   have z46:w6.get w2.size=_:=(x6.2 _ (by omega)).trans z4
   simp +decide only [go_sem,WR,WS,H2.hl,← hhv,hok,e3,z3,j2,e4,z4,e5,z5,j4,e6,z46]
   refine W_call Kok x06.1 nmr fun r w7 x7 hr=> ?_
   have z47:w7.get w2.size=_:=(x7.2 _ (by omega)).trans z46
   obtain ⟨w8,e8,x8,hs8,z8⟩:=lay1 w7 (.cells [.string x.nm] 1)
   have x48:=x6.trans (x7.trans x8)
   have hnl:=names_len x
   obtain ⟨w9,e9,o9,hs9,x9,k9⟩:=app_other (low:=h.size) (bytes:=16) (k:=1) (new:=[.string x.nm]) j4 x48 ((hr.ext x8).keep x6.1 fun b hb _=>⟨rfl,hb⟩) (by omega) (by omega) rfl (by omega) (by omega)
   obtain ⟨ra,rc,rfl⟩:=hr.shape
   have hall:x.all.length=x.names.length+1:=by simp [HdT.all]
   have hrq:vblk (.slice ra x.names.length rc)≠some w4.size:=by
    intro hh
    have:=(own_lh hr hh).1
    omega
   have S9:DS w4 w4.size w9 x hv (.slice none 0 0) (.slice none 0 0) (.slice (some ⟨w8.size,0,none⟩) (x.names.length+1) big) [] [] x.all:=by
    have m7:=x7.1
    have m8:=x8.1
    refine ⟨x9,Nat.le_refl _,by omega,?_,Own.nil _ _ _,Own.nil _ _ _,?_,fun b hb=>by simp [vblk] at hb⟩
    ·rw [k9 _ (by omega) hrq,(x7.trans x8).2 _ (by omega),z6]
    ·rw [hall]
     have:sv x.all=sv x.names++[.string x.nm]:=by rw [HdT.all,sv_append];rfl
     rw [this]
     exact o9
   have hrs:N - 1=rs.length:=by rw [← hN];rfl
   have hsb:h.size < w4.size:=by omega
   simp +decide only [go_sem,WR,WS,z47,e8,z8,e9]
   refine W_loop (α:=Nat × Value × Value × Value × List ByteArray × List (ByteArray × Nat) × List ByteArray) (fun k e W=>k.1≤rs.length∧e.size=94∧DS w4 w4.size W x hv k.2.1 k.2.2.1 k.2.2.2.1 k.2.2.2.2.1 k.2.2.2.2.2.1 k.2.2.2.2.2.2∧e.get 2= .pointer (some ⟨h.size,0,none⟩)∧e.get 6= .pointer (some ⟨w4.size,0,none⟩)∧e.get 7=k.2.2.2.1 ∧
    e.get 0= .slice (some ⟨b,o,none⟩) N c∧e.get 8= .int .i64 ((k.1+1:Nat):Int)∧linesS x rs 1 [] [] x.all=linesS x (rs.drop k.1) (k.1+1) k.2.2.2.2.1 k.2.2.2.2.2.1 k.2.2.2.2.2.2∧k.2.2.2.2.1.length≤k.1∧k.2.2.2.2.2.1.length≤k.1∧k.2.2.2.2.2.2.length≤1000+k.1)
    (fun k=>rs.length - k.1) (0,.slice none 0 0,.slice none 0 0,.slice (some ⟨w8.size,0,none⟩) (x.names.length+1) big,[],[],x.all) ?_ ?_
   ·exact ⟨Nat.zero_le _,by simp +decide only [go_sem],S9,by simp +decide only [go_sem],by simp +decide only [go_sem],by simp +decide only [go_sem],by simp +decide only [go_sem],by simp +decide only [go_sem];rfl,by simp,by simp,by simp,by simp only [hall];omega⟩
   clear e9 o9 x9 k9 S9 e8 z8 x8 hs8 hs9
   rintro ⟨k,lv,bv,tv,ls,lb,tk⟩ e W ⟨hk,hsz,S,g2,g6,g7,ga,g8,hlin,hl1,hl2,hl3⟩ next
   simp only at hk S g7 g8 hlin hl1 hl2 hl3
   have xW:=x04.trans S.ext
   have gz:W.get h.size=_:=(S.ext.2 _ hsb).trans g0
   have hrn:rs.length≤5000:=by omega
   by_cases hkl:((k+1:Nat):Int) < ((N:Nat):Int)
   case neg =>
    have hke:rs.drop k=[]:=List.drop_of_length_le (by omega)
    rw [hke,linesS] at hlin
    have V:DV W (.agg (dl x hv lv bv).toArray) ⟨x,ls,lb⟩:=by
     have S':=S
     rw [hhv] at S' ⊢
     exact S'.value s4
    have g:=S.g
    obtain ⟨w',ew,gw,_⟩:=fin0 W (dl x hv lv bv) xW
    have V':=DV.put V gz ew
    simp only [dl] at g ew gw
    have hol:cellOK lv=true:=by obtain ⟨a1,c1,hh⟩:=S.ol.shape;rw [hh];rfl
    have hob:cellOK bv=true:=by obtain ⟨a1,c1,hh⟩:=S.ob.shape;rw [hh];rfl
    simp +decide only [go_sem,WR,WS,hsz,g2,g6,g7,ga,g8,hkl,g,gz,j0,hok,hol,hob,ew,gw]
    rw [hms,if_pos rfl,hlin]
    exact ⟨_,rfl,V'⟩
   have hkn:k < rs.length:=by omega
   obtain ⟨r,hr⟩:∃ r,r=rs[k]:=⟨_,rfl⟩
   have q4':cs[o+(k+1)]? =some (.string r):=by rw [hr];exact hcs' k hkn
   have q3':(W.get b).read= .cells cs 1:=by rw [xW.2 b q2];exact q3
   have hdr:rs.drop k=r::rs.drop (k+1):=by rw [hr];exact List.drop_eq_getElem_cons (by omega)
   have hrz:=hz r (by rw [hr];simp)
   rw [hdr] at hlin
   obtain ⟨L',rfl⟩:=text_of r
   obtain ⟨l',hl'⟩:∃ l',l'=runesI (text L'):=⟨_,rfl⟩
   have hll':l'.length≤100000:=by rw [hl'];exact Nat.le_trans (runesI_len _) hrz
   obtain ⟨u1,f1,y1,hs1',z1'⟩:=lay1 W (.cells (rv l') 1)
   have t1':Ln u1 (.slice (some ⟨W.size,0,none⟩) l'.length big) l':=Ln.new (by omega) z1'
   have ic':=icvt_all (l:=L') (h:=W)
   rw [← hl',f1] at ic'
   have c0:(0:Int)≤((k+1:Nat):Int):=by omega
   have k1:IntKind.i64.wrap (((k+1:Nat):Int)+1)=((k+1+1:Nat):Int):=by rw [wrap_i64 (by omega) (by omega)];omega
   have S1:=S.more y1
   simp +decide only [go_sem,WR,WS,hsz,g2,g6,g7,ga,g8,hkl,c0,Int.toNat_natCast,q3',q4',ic']
   refine W_call Kok (x04.trans S1.ext).1 (rtrim_run l' u1 t1' (by omega)) fun r u2 y2 hr2=> ?_
   obtain ⟨hw,tm⟩:=hr2
   have hw:=hw.symm
   subst hw
   obtain ⟨m,hm⟩:∃ m,m=trimS l':=⟨_,rfl⟩
   have hmm:trimS (runesI (text L'))=m:=by rw [hm,hl']
   rw [← hm] at tm
   have hml:m.length≤100000:=by rw [hm];exact Nat.le_trans (trim_len l') hll'
   obtain ⟨ma,mc,rfl⟩:=tm.open
   simp +decide only [go_sem,WR,WS,hsz]
   refine W_call Kok (x04.trans S1.ext).1 (rlex_run u1 tm.tx) fun r u3 y3 hr3=> ?_
   have S3:=S1.more y3
   have gz3:u3.get h.size=_:=(S3.ext.2 _ hsb).trans g0
   have xz:Ext h u3:=x04.trans S3.ext
   obtain ⟨w',ew,gw,_⟩:=fin0 u3 [.string ByteArray.empty,.string ByteArray.empty,.string ByteArray.empty,.string ByteArray.empty,.slice none 0 0,.slice none 0 0,.slice none 0 0] xz
   rcases hr3 with ⟨hlex,rfl⟩ | ⟨xs,xa,xc,hlex,hA,hxl,rfl,sx⟩
   ·rw [lines_bad (.inl (by rw [hmm,hlex];rfl))] at hlin
    simp +decide only [go_sem,WR,WS,hsz,g2,g6,g7,ga,g8,gz3,j0,ew,gw,k1]
    rw [hms,if_pos rfl,hlin]
    exact ⟨_,rfl,zd _⟩
   by_cases h200:(200:Int) < ((k+1:Nat):Int)
   ·rw [lines_bad (.inr (by omega))] at hlin
    simp +decide only [go_sem,WR,WS,hsz,g2,g6,g7,ga,g8,h200,gz3,j0,ew,gw,k1]
    rw [hms,if_pos rfl,hlin]
    exact ⟨_,rfl,zd _⟩
   have hok:¬ ((lex (trimS (runesI (text L')))).isNone=true∨200 < k+1):=by
    rw [hmm,hlex]
    simp
    omega
   simp +decide only [go_sem,WR,WS,hsz,g8,h200]
   refine W_call Kok xz.1 (rlabel_run m u3 ((tm.ext y3).tx) (lex_512 hlex)) fun r u4 y4 hr4=> ?_
   obtain ⟨uu,rfl,_⟩:=hr4
   have S4:=S3.more y4
   have tm4:=tm.ext (y3.trans y4)
   obtain ⟨lab,hlab⟩:∃ lab,lab=(labelL m).1:=⟨_,rfl⟩
   rw [← hlab]
   have xz4:Ext h u4:=x04.trans S4.ext
   by_cases hE:lab=E
   ·have hE':lab=⟨#[]⟩:=hE
    rw [lines_none hok (by rw [hmm,← hlab];exact hE),hmm] at hlin
    have is4:=tm4.islice
    obtain ⟨v1,v2,v3,a1,b1,a2,b2,a3,S5⟩:=S4.line (low:=h.size) j4 (runesBytes m) (by omega)
    have g4:=S4.g
    simp only [dl] at g4 b2 a3
    simp +decide only [go_sem,WR,WS,hsz,g2,g6,g7,ga,g8,hE',g4,is4,icvs_rv,a1,b1,a2,b2,a3,j4,k1]
    exact next (k+1,.slice (some ⟨v1.size,0,none⟩) (ls.length+1) big,bv,tv,ls++[runesBytes m],lb,tk) _ _ ⟨by simp only;omega,by simp +decide only [go_sem,hsz],S5,by simp +decide only [go_sem,hsz,g2],by simp +decide only [go_sem,hsz,g6],by simp +decide only [go_sem,hsz,g7],by simp +decide only [go_sem,hsz,ga],by simp +decide only [go_sem,hsz],hlin,by simp;omega,by simp only;omega,by simp only;omega⟩ (by simp only;omega)
   have hE':¬ lab=⟨#[]⟩:=hE
   obtain ⟨ta,tc,rfl⟩:=S4.ot.shape
   simp +decide only [go_sem,WR,WS,hsz,g2,g6,g7,hE']
   refine W_call Kok xz4.1 (has_run tk lab u4 S4.ot.sl (by omega)) fun r u5 y5 hr5=> ?_
   obtain ⟨hw,rfl⟩:=hr5
   subst hw
   by_cases hmem:lab ∈ tk
   ·rw [lines_twice hok (by rw [hmm,← hlab];exact hE) (by rw [hmm,← hlab];exact hmem)] at hlin
    have gz4:u4.get h.size=_:=(S4.ext.2 _ hsb).trans g0
    obtain ⟨w',ew,gw,_⟩:=fin0 u4 [.string ByteArray.empty,.string ByteArray.empty,.string ByteArray.empty,.string ByteArray.empty,.slice none 0 0,.slice none 0 0,.slice none 0 0] xz4
    simp +decide only [go_sem,WR,WS,hsz,g2,g6,g7,ga,g8,hmem,gz4,j0,ew,gw,k1]
    rw [hms,if_pos rfl,hlin]
    exact ⟨_,rfl,zd _⟩
   rw [lines_more hok (by rw [hmm,← hlab];exact hE) (by rw [hmm,← hlab];exact hmem),hmm,← hlab] at hlin
   obtain ⟨v1,v2,a1,b1,a2,S5,r5⟩:=S4.take (low:=h.size) j4 lab (by omega)
   obtain ⟨v3,v4,v5,a3,b3,a4,b4,a5,S6,r6⟩:=S5.label (low:=h.size) j4 lab (k+1) (by omega)
   have is6:=((RK.of (y3.trans y4)).trans (r5.trans r6)).islice tm
   obtain ⟨v6,v7,v8,a6,b6,a7,b7,a8,S7⟩:=S6.line (low:=h.size) j4 (runesBytes m) (by omega)
   have g5:=S5.g
   have g6':=S6.g
   simp only [dl] at g5 g6' b4 a5 b7 a8
   simp +decide only [go_sem,WR,WS,hsz,g2,g6,g7,ga,g8,hmem,a1,b1,a2,g5,a3,b3,a4,b4,a5,g6',is6,icvs_rv,a6,b6,a7,b7,a8,j4,k1]
   exact next (k+1,.slice (some ⟨v6.size,0,none⟩) (ls.length+1) big,.slice (some ⟨v3.size,0,none⟩) (lb.length+1) big,.slice (some ⟨v1.size,0,none⟩) (tk.length+1) big,ls++[runesBytes m],lb++[(lab,k+1)],tk++[lab]) _ _ ⟨by simp only;omega,by simp +decide only [go_sem,hsz],S7,by simp +decide only [go_sem,hsz,g2],by simp +decide only [go_sem,hsz,g6],by simp +decide only [go_sem,hsz],by simp +decide only [go_sem,hsz,ga],by simp +decide only [go_sem,hsz],hlin,by simp;omega,by simp;omega,by simp;omega⟩ (by simp only;omega)
end Go.Proofs.YtachkofbmodnnaaGreatDoor.D3
namespace Go.Im.Defn
open Go Go.Im Go.Im.Lexing Go.Im.Heads Go.Im.Editing
theorem lines_hd:∀ {rs:List ByteArray} {x:HdT} {i:Nat} {ls:List ByteArray} {lb:List (ByteArray × Nat)} {tk:List ByteArray},(linesS x rs i ls lb tk).1.hd=x∨(linesS x rs i ls lb tk).1=dZ
 | [],x,i,ls,lb,tk=> .inl rfl
 | r::rs,x,i,ls,lb,tk=>by
   rw [linesS]
   split
   ·exact .inr rfl
   ·split
    ·exact lines_hd
    ·split
     ·exact .inr rfl
     ·exact lines_hd
theorem make_good (rows:List ByteArray):Heads.Good (makeS rows).1.hd:=by
 match rows with
 | []=>exact good_z
 | r::rs =>
   rw [makeS]
   split
   ·rcases lines_hd (rs:=rs) (x:=(hdp (runesI r)).1) (i:=1) (ls:=[]) (lb:=[]) (tk:=(hdp (runesI r)).1.all) with h | h
    ·rw [h]
     exact hdp_good _
    ·rw [h]
     exact good_z
   ·exact good_z
theorem lines_few:∀ {rs:List ByteArray} {x:HdT} {i:Nat} {ls:List ByteArray} {lb:List (ByteArray × Nat)} {tk:List ByteArray},(linesS x rs i ls lb tk).1.lines.length≤ls.length+rs.length∧(linesS x rs i ls lb tk).1.labels.length≤lb.length+rs.length
 | [],x,i,ls,lb,tk=>⟨by simp [linesS],by simp [linesS]⟩
 | r::rs,x,i,ls,lb,tk=>by
   rw [linesS]
   split
   ·simp [dZ]
   ·split
    ·have:=lines_few (rs:=rs) (x:=x) (i:=i+1) (ls:=ls++[runesBytes (trimS (runesI r))]) (lb:=lb) (tk:=tk)
     simp only [List.length_append,List.length_cons,List.length_nil] at this ⊢
     omega
    ·split
     ·simp [dZ]
     ·have:=lines_few (rs:=rs) (x:=x) (i:=i+1) (ls:=ls++[runesBytes (trimS (runesI r))]) (lb:=lb++[((labelL (trimS (runesI r))).1,i)]) (tk:=tk++[(labelL (trimS (runesI r))).1])
      simp only [List.length_append,List.length_cons,List.length_nil] at this ⊢
      omega
theorem make_few (rows:List ByteArray):(makeS rows).1.lines.length≤rows.length∧(makeS rows).1.labels.length≤rows.length:=by
 match rows with
 | []=>exact ⟨Nat.le_refl _,Nat.le_refl _⟩
 | r::rs =>
   rw [makeS]
   split
   ·have:=lines_few (rs:=rs) (x:=(hdp (runesI r)).1) (i:=1) (ls:=[]) (lb:=[]) (tk:=(hdp (runesI r)).1.all)
    simp only [List.length_nil,List.length_cons] at this ⊢
    omega
   ·simp [dZ]
end Go.Im.Defn
namespace Go.Proofs.YtachkofbmodnnaaGreatDoor.D4
open Go Go.Im Go.Im.Limbs Go.Im.Lexing Go.Im.Heads Go.Im.Editing Go.Im.Defn Go.Proofs Go.RowKit Hd H2 H3 H4 H5 D2 D3
set_option maxRecDepth 100000
def rowsT (d:DefT):List ByteArray:=txtB d.hd::d.lines
theorem rows_len (d:DefT):(rowsT d).length=d.lines.length+1:=rfl
theorem good_sizes {x:HdT} (G:Heads.Good x):x.nm.size≤1000000∧x.re.size≤1000000∧x.le.size≤1000000∧x.ri.size≤1000000∧∀ y ∈ x.ls,y.size≤1000000 :=
 ⟨Nat.le_trans G.nm (by decide),Nat.le_trans G.re (by decide),Nat.le_trans G.le (by decide),Nat.le_trans G.ri (by decide),fun y hy=>Nat.le_trans (G.ls y hy) (by decide)⟩
theorem one_more {h w:Heap} {b:Nat} {t:ByteArray} {ls:List ByteArray} {a:Option Addr} {c:Nat} (hb:b < w.size) (hg:w.get b= .cells [.string t] 1) (s:Sl w 1 a ls.length c (sv ls)) (hm:ls.length≤100000) (low:Nat) :
  ∃ a' c' w',iapp low w 1 16 (.slice (some ⟨b,0,none⟩) 1 1) ls.length (some (sv ls))=some (.slice a' (ls.length+1) c',w')∧Ext w w'∧Sl w' 1 a' (ls.length+1) c' (sv (t::ls)):=by
 by_cases h0:ls.length=0
 ·have:ls=[]:=List.eq_nil_of_length_eq_zero h0
  subst this
  refine ⟨some ⟨b,0,none⟩,1,w,?_,Ext.refl w,.inr (.inr ⟨b,0,_,rfl,by omega,hb,by rw [hg];rfl,by simp,rfl,.inl ⟨by simp,by simp [big]⟩⟩)⟩
  simp [iapp]
 ·refine ⟨some ⟨w.size,0,none⟩,big,w.push (.cells (.string t::sv ls) 1),?_,(Ext.refl w).push _,.inr (.inr ⟨w.size,0,_,rfl,by simp [big],by simp,by rw [Heap.get_push,if_pos rfl];rfl,by simp [sv],by rw [List.drop_zero,List.take_of_length_le (by simp [sv])];rfl,.inr rfl⟩)⟩
  simp only [iapp]
  rw [if_neg (by omega),if_neg h0]
  simp only [iput,hg]
  rw [if_neg (by simp),if_pos (by simp [big]),if_neg (by omega),Nat.add_comm 1]
  simp
theorem drows_run (d:DefT) (h:Heap) {v:Value} (V:DV h v d) (G:Heads.Good d.hd) (hm:d.lines.length≤100000):Runs K 46 #[v] h fun r w=>∃ a c,r= .slice a (rowsT d).length c∧Sl w 1 a (rowsT d).length c (sv (rowsT d)):=by
 obtain ⟨a,c,a1,c1,a2,c2,rfl,s1,s2,s3⟩:=V
 refine Runs.of Kok (Does.intro rfl (by decide +kernel) Tryz.func46 rfl ?_)
 obtain ⟨w1,e1,x1,hs1,z1⟩:=lay1 h (.cells [.string d.hd.nm,.string d.hd.re,.string d.hd.le,.string d.hd.ri,.slice a d.hd.ls.length c,.slice a1 d.lines.length c1,.slice a2 d.labels.length c2] 7)
 have txr:=text_run d.hd w1 (s1.ext x1) (by have:=G.few;omega) (good_sizes G)
 simp only [H2.hl] at txr
 simp +decide only [go_sem,WR,WS,dl,e1,z1]
 refine W_call Kok x1.1 txr fun r w2 x2 hr=> ?_
 subst hr
 have z2:w2.get h.size=_:=(x2.2 _ (by omega)).trans z1
 obtain ⟨w3,e3,x3,hs3,z3⟩:=lay1 w2 (.cells [.string (txtB d.hd)] 1)
 have z23:w3.get h.size=_:=(x3.2 _ (by have:=x2.1;omega)).trans z2
 have s2':=s2.ext (x1.trans (x2.trans x3))
 have is2:=s2'.isl
 obtain ⟨a',c',w4,f4,x4,s4⟩:=one_more (h:=h) (by omega) z3 s2' hm h.size
 obtain ⟨ad,had⟩:∃ ad,ad=Value.slice a1 d.lines.length c1:=⟨_,rfl⟩
 have hld:∃ ad',Value.slice a1 d.lines.length c1= .slice ad' d.lines.length c1:=⟨_,rfl⟩
 simp +decide only [go_sem,WR,WS,z2,e3,z23,is2,f4]
 exact ⟨a',c',rfl,s4⟩
theorem rdrows_run (d:DefT) (h:Heap) {v:Value} (V:DV h v d) (G:Heads.Good d.hd) (hm:d.lines.length≤100000):Runs K 48 #[v] h fun r w=>∃ a c,r= .slice a (rowsT d).length c∧Sl w 1 a (rowsT d).length c (sv (rowsT d)):=by
 obtain ⟨a,c,a1,c1,a2,c2,rfl,s1,s2,s3⟩:=V
 refine Runs.of Kok (Does.intro rfl (by decide +kernel) Tryz.func48 rfl ?_)
 obtain ⟨w1,e1,x1,hs1,z1⟩:=lay1 h (.cells [.string d.hd.nm,.string d.hd.re,.string d.hd.le,.string d.hd.ri,.slice a d.hd.ls.length c,.slice a1 d.lines.length c1,.slice a2 d.labels.length c2] 7)
 have txr:=rtext_run d.hd w1 (s1.ext x1) (by have:=G.few;omega) (good_sizes G)
 simp only [H2.hl] at txr
 simp +decide only [go_sem,WR,WS,dl,e1,z1]
 refine W_call Kok x1.1 txr fun r w2 x2 hr=> ?_
 subst hr
 have z2:w2.get h.size=_:=(x2.2 _ (by omega)).trans z1
 obtain ⟨w3,e3,x3,hs3,z3⟩:=lay1 w2 (.cells [.string (txtB d.hd)] 1)
 have z23:w3.get h.size=_:=(x3.2 _ (by have:=x2.1;omega)).trans z2
 have s2':=s2.ext (x1.trans (x2.trans x3))
 have is2:=s2'.isl
 obtain ⟨a',c',w4,f4,x4,s4⟩:=one_more (h:=h) (by omega) z3 s2' hm h.size
 simp +decide only [go_sem,WR,WS,z2,e3,z23,is2,f4]
 exact ⟨a',c',rfl,s4⟩
end Go.Proofs.YtachkofbmodnnaaGreatDoor.D4
namespace Go.Proofs.YtachkofbmodnnaaGreatDoor.M0
open Go Go.Im Go.Im.Limbs Go.Im.Lexing Go.Im.Heads Go.Im.Editing Go.Im.Defn Go.Proofs Go.RowKit Hd N19 H2 H3 H4 H5 H7 D2 D3 D4
set_option maxRecDepth 100000
theorem validX_ext:K.ext 31=some fun _ args h=>validRun args h:=rfl
theorem uvalid_run (s:ByteArray) (h:Heap) (T:TabsAt h) (hs:s.size≤1000000):Runs K 31 #[.string s] h fun r w=>h=w∧∃ b,r= .bool b:=by
 refine Runs.of Kok (known_does validX_ext (v:= .bool (Lib.validD s.data.toList)) (w:=h) ?_ ⟨rfl,_,rfl⟩)
 simp only [validRun]
 rw [if_pos ⟨T,hs⟩]
theorem short_run (rows:List ByteArray) (h:Heap) {a:Option Addr} {c:Nat} (s:Sl h 1 a rows.length c (sv rows)) (T:TabsAt h) :
  Runs K 7 #[.slice a rows.length c] h fun r w=>h=w∧∃ b,r= .bool b∧(b=true→rows.length≤300∧∀ y ∈ rows,y.size≤2000):=by
 refine Runs.of Kok (Does.intro rfl (by decide +kernel) Tryz.func7 rfl ?_)
 simp +decide only [go_sem,WR,WS]
 refine W_loop (α:=Nat × Nat) (fun k e w=>k.1≤rows.length∧k.1≤300∧k.2≤3000∧e.size=41∧h=w∧e.get 0= .slice a rows.length c∧e.get 3= .int .i64 (k.2:Int)∧e.get 4= .int .i64 (k.1:Int)∧∀ y ∈ rows.take k.1,y.size≤2000) (fun k=>300 - k.1) (0,0) ?_ ?_
 ·exact ⟨Nat.zero_le _,by omega,by simp,by simp +decide only [go_sem],rfl,by simp +decide only [go_sem],by simp +decide only [go_sem];rfl,by simp +decide only [go_sem];rfl,by simp⟩
 rintro ⟨k,n⟩ e w ⟨hk,hk3,hn,hsz,hw,e0,e3,e4,hall⟩ next
 simp only at hk hk3 hn e3 e4 hall
 subst hw
 by_cases hkl:(k:Int) < ((rows.length:Nat):Int)
 ·by_cases h3:(k:Int) < 300
  ·obtain ⟨b,o,cs,rfl,q2,q3,q4⟩:=text_at s (i:=k) (by omega)
   obtain ⟨y,hy⟩:∃ y,y=rows[k]:=⟨_,rfl⟩
   have hyk:rows[k]? =some y:=by rw [hy];exact List.getElem?_eq_getElem (by omega)
   rw [← hy] at q4
   have c0:(0:Int)≤(k:Int):=by omega
   have k1:IntKind.i64.wrap ((k:Int)+1)=((k+1:Nat):Int):=by rw [wrap_i64 (by omega) (by omega)];omega
   by_cases hbig:(2000:Int) < ((y.size:Nat):Int)
   ·simp +decide only [go_sem,WR,WS,hsz,e0,e3,e4,hkl,h3,c0,Int.toNat_natCast,q3,q4,hbig]
    exact ⟨_,rfl,fun hh=>by cases hh⟩
   ·have n1:IntKind.i64.wrap ((n:Int)+((y.size:Nat):Int))=((n+y.size:Nat):Int):=by rw [wrap_i64 (by omega) (by omega)];omega
    simp +decide only [go_sem,WR,WS,hsz,e0,e3,e4,hkl,h3,c0,Int.toNat_natCast,q3,q4,hbig]
    refine W_call Kok (Nat.le_refl _) (uvalid_run y h T (by omega)) fun r w x hr=> ?_
    obtain ⟨hw,b,rfl⟩:=hr
    subst hw
    cases b
    ·simp +decide only [go_sem,WR,WS,hsz,e0,e3,e4]
     exact ⟨_,rfl,fun hh=>by cases hh⟩
    ·by_cases hsum:(3000:Int) < ((n+y.size:Nat):Int)
     ·simp +decide only [go_sem,WR,WS,hsz,e0,e3,e4,hkl,c0,Int.toNat_natCast,q3,q4,n1,hsum]
      exact ⟨_,rfl,fun hh=>by cases hh⟩
     ·simp +decide only [go_sem,WR,WS,hsz,e0,e3,e4,hkl,c0,Int.toNat_natCast,q3,q4,n1,hsum,k1]
      refine next (k+1,n+y.size) _ _ ⟨by simp only;omega,by simp only;omega,by simp only;omega,by simp +decide only [go_sem,hsz],rfl,by simp +decide only [go_sem,hsz,e0],by simp +decide only [go_sem,hsz],by simp +decide only [go_sem,hsz],?_⟩ (by simp only;omega)
      intro z hz
      rw [List.take_add_one,hyk] at hz
      simp only [Option.toList_some,List.mem_append,List.mem_singleton] at hz
      rcases hz with hz | rfl
      ·exact hall z hz
      ·omega
  ·simp +decide only [go_sem,WR,WS,hsz,e0,e3,e4,hkl,h3]
   refine ⟨_,rfl,fun hh=> ?_⟩
   have:=of_decide_eq_true hh
   have hr:rows.take k=rows:=List.take_of_length_le (by omega)
   rw [hr] at hall
   exact ⟨by omega,hall⟩
 ·simp +decide only [go_sem,WR,WS,hsz,e0,e3,e4,hkl]
  refine ⟨_,rfl,fun hh=> ?_⟩
  have hr:rows.take k=rows:=List.take_of_length_le (by omega)
  rw [hr] at hall
  exact ⟨by omega,hall⟩
end Go.Proofs.YtachkofbmodnnaaGreatDoor.M0
namespace Go.Proofs.YtachkofbmodnnaaGreatDoor.M6
open Go Go.Im Go.Im.Limbs Go.Im.Lexing Go.Im.Heads Go.Im.Editing Go.Im.Defn Go.Proofs Go.RowKit Hd N19 H2 H3 H4 H5 H7 D2 D3 D4
set_option maxRecDepth 100000
end Go.Proofs.YtachkofbmodnnaaGreatDoor.M6
namespace Go.Im.Arrays
open Go Go.Im Go.Im.Lexing
def iv (l:List Int):List Value:=l.map (Value.int .i64)
theorem icp_ok {low:Nat} {h:Heap} {b o n:Nat} {a:Option Addr} {m c:Nat} {cs new:List Value} (hg:h.get b= .cells cs 1) (hl:low≤b) (hi:islice h 1 (.slice a m c)=some new) (hm:new.length=m) (ho:o+n≤cs.length) :
  icp low h (some (.slice 1)) b o n (.slice a m c)=some (.int .i64 ((min m n:Nat):Int),h.set b (.cells (splice cs o (new.take (min m n))) 1)):=by
 simp only [icp,hg,hi]
 rw [if_pos ⟨hl,trivial,by omega,by omega⟩]
 simp only [hm,Nat.div_one,Nat.mul_one]
theorem iand64 {P:Program} {t:TypeId} {x y:Nat} (hx:x < 18446744073709551616) (hy:y < 18446744073709551616):ibinop P .and t (.int .u64 (x:Int)) (.int .u64 (y:Int))=some (.int .u64 ((x &&& y:Nat):Int)):=by
 have e:(BitVec.ofInt 64 (x:Int) &&& BitVec.ofInt 64 (y:Int)).toNat=x &&& y:=by
  rw [BitVec.toNat_and,BitVec.ofInt_natCast,BitVec.ofInt_natCast,BitVec.toNat_ofNat,BitVec.toNat_ofNat,Nat.mod_eq_of_lt hx,Nat.mod_eq_of_lt hy]
 have l:x &&& y < 2 ^ 64:=Nat.lt_of_le_of_lt Nat.and_le_left hx
 have h:Op.intBits .and .u64 (x:Int) (y:Int)= .pure (.int .u64 (IntKind.u64.wrap (((BitVec.ofInt 64 (x:Int) &&& BitVec.ofInt 64 (y:Int)).toNat:Nat):Int))):=rfl
 simp only [ibinop,ibin,if_true,h]
 rw [e,w64 l]
theorem imask {P:Program} {t:TypeId} {x:Nat} (hx:x < 4294967296):ibinop P .and t (.int .u64 (x:Int)) (.int .u64 4294967295)=some (.int .u64 (x:Int)):=by
 have h:=iand64 (P:=P) (t:=t) (x:=x) (y:=4294967295) (by omega) (by omega)
 have e:x &&& 4294967295=x:=by
  have:=Nat.and_two_pow_sub_one_eq_mod x 32
  rw [show (2:Nat) ^ 32 - 1=4294967295 from rfl] at this
  rw [this]
  omega
 rw [e] at h
 exact h
theorem irsl_tail_own {w:Heap} {b N l:Nat} {cs:List Value} (hg:w.get b= .cells cs 1) (hl:l < N) (hN:N < big) :
  irsl (some (.slice 1)) w (some ⟨b,0,none⟩) N N (some (.int .i64 (l:Int))) none none=some (.slice (some ⟨b,l,none⟩) (N - l) (N - l)):=by
 have h1:boundOf 0 (some (.int .i64 (l:Int)))=some l:=by simp [boundOf]
 have h2:boundOf N none=some N:=rfl
 have hin:=iinds_of (n:=N) (cap:=N) h1 h2 (by omega) (Nat.le_refl _)
 simp only [irsl,hin,if_pos hN,if_neg (show ¬ N=0 by omega),Heap.look,hg,Blk.read]
 rw [if_pos trivial,if_neg (show ¬ N=l by omega)]
 simp
theorem irsl_head_own {w:Heap} {b N u:Nat} {cs:List Value} (hg:w.get b= .cells cs 1) (hu:u≤N) (h0:0 < N) (hN:N < big) :
  irsl (some (.slice 1)) w (some ⟨b,0,none⟩) N N none (some (.int .i64 (u:Int))) none=some (.slice (some ⟨b,0,none⟩) u N):=by
 have h1:boundOf 0 none=some 0:=rfl
 have h2:boundOf N (some (.int .i64 (u:Int)))=some u:=by simp [boundOf]
 have hin:=iinds_of (n:=N) (cap:=N) h1 h2 (by omega) hu
 simp only [irsl,hin,if_pos hN,if_neg (show ¬ N=0 by omega),Heap.look,hg,Blk.read]
 rw [if_pos trivial]
 simp
def bz (n k:Nat):List Int:=List.replicate k 32++List.replicate (n - k) 0
theorem bz_length {n k:Nat} (h:k≤n):(rv (bz n k)).length=n:=by simp [bz,rv_length];omega
theorem bz_more {n k m:Nat} (h:k+m≤n):splice (rv (bz n k)) k (rv (List.replicate m 32))=rv (bz n (k+m)):=by
 unfold splice
 rw [rv_take,rv_drop,← rv_append,← rv_append,rv_length,List.length_replicate]
 congr 1
 unfold bz
 rw [List.take_append_of_le_length (by simp),List.take_of_length_le (by simp),List.drop_append,List.drop_of_length_le (by simp),List.nil_append,List.length_replicate,List.drop_replicate,List.replicate_append_replicate]
 congr 2
 omega
def AV (w:Heap) (v:Value) (shape tx:List Int):Prop:=∃ a c a1 c1,v= .agg #[.slice a shape.length c,.bool true,.slice a1 tx.length c1,.slice none 0 0,.bool true]∧Sl w 1 a shape.length c (iv shape)∧Sl w 1 a1 tx.length c1 (rv tx)
theorem AV.ext {w w':Heap} (k:Ext w w') {v:Value} {shape tx:List Int} (H:AV w v shape tx):AV w' v shape tx:=by
 obtain ⟨a,c,a1,c1,h1,h2,h3⟩:=H
 exact ⟨a,c,a1,c1,h1,h2.ext k,h3.ext k⟩
def azero:Value:= .agg #[.slice none 0 0,.bool false,.slice none 0 0,.slice none 0 0,.bool false]
def ok2 (x y:Nat):Bool:=decide (x≤4096) && decide (y≤4096 / x)
end Go.Im.Arrays
namespace Go.Proofs.YtachkofbmodnnaaGreatDoor.M8
open Go Go.Im Go.Im.Limbs Go.Im.Lexing Go.Im.Heads Go.Im.Editing Go.Im.Defn Go.Im.Arrays Go.Proofs Go.RowKit Hd H3
set_option maxRecDepth 100000
theorem cloner_run (h:Heap) {a:Option Addr} {n c:Nat} {xs:List Value} (s:Sl h 1 a n c xs) (hn:n≤1000000):Runs K 95 #[.slice a n c] h fun r w=>∃ a' c',r= .slice a' n c'∧Sl w 1 a' n c' xs:=by
 refine Runs.of Kok (Does.intro rfl (by decide +kernel) Tryz.func95 rfl ?_)
 cases a with
 | none =>
   have h0:n=0:=by
    rcases s with ⟨_,h0,_⟩ | ⟨_,_,hh,_⟩ | ⟨_,_,_,hh,_⟩
    ·exact h0
    ·cases hh
    ·cases hh
   subst h0
   have hx:xs=[]:=List.eq_nil_of_length_eq_zero (by have:=s.length;omega)
   subst hx
   simp +decide only [go_sem,WR,WS]
   exact ⟨_,_,rfl,Sl.nil _ _⟩
 | some ad =>
   obtain ⟨w1,e1,x1,hs1,g1⟩:=lay1 h (.cells [] 1)
   obtain ⟨a2,c2,w2,e2,x2,_,s2⟩:=app0 (low:=h.size) (bytes:=4) (new:=xs) (k:=n) g1 (by omega) (by omega) (by have:=s.length;omega) (by omega) (by omega)
   have hi:=(s.ext x1).isl
   simp +decide only [go_sem,WR,WS,e1,hi,e2]
   exact ⟨_,_,rfl,s2⟩
theorem clonei_run (h:Heap) {a:Option Addr} {n c:Nat} {xs:List Value} (s:Sl h 1 a n c xs) (hn:n≤1000000):Runs K 94 #[.slice a n c] h fun r w=>∃ a' c',r= .slice a' n c'∧Sl w 1 a' n c' xs:=by
 refine Runs.of Kok (Does.intro rfl (by decide +kernel) Tryz.func94 rfl ?_)
 cases a with
 | none =>
   have h0:n=0:=by
    rcases s with ⟨_,h0,_⟩ | ⟨_,_,hh,_⟩ | ⟨_,_,_,hh,_⟩
    ·exact h0
    ·cases hh
    ·cases hh
   subst h0
   have hx:xs=[]:=List.eq_nil_of_length_eq_zero (by have:=s.length;omega)
   subst hx
   simp +decide only [go_sem,WR,WS]
   exact ⟨_,_,rfl,Sl.nil _ _⟩
 | some ad =>
   obtain ⟨w1,e1,x1,hs1,g1⟩:=lay1 h (.cells [] 1)
   obtain ⟨a2,c2,w2,e2,x2,_,s2⟩:=app0 (low:=h.size) (bytes:=8) (new:=xs) (k:=n) g1 (by omega) (by omega) (by have:=s.length;omega) (by omega) (by omega)
   have hi:=(s.ext x1).isl
   simp +decide only [go_sem,WR,WS,e1,hi,e2]
   exact ⟨_,_,rfl,s2⟩
theorem mul64_run (n:Nat) (h:Heap) (hn:n≤100000):Runs K 120 #[.int .u64 1,.int .u64 (n:Int)] h fun r w=>h=w∧r= .tuple #[.int .u64 0,.int .u64 (n:Int)]:=by
 refine Runs.of Kok (Does.intro rfl (by decide +kernel) Tryz.func120 rfl ?_)
 have m1:∀ t,ibinop Tryz.prog .and t (.int .u64 1) (.int .u64 4294967295)=some (.int .u64 1):=fun t=>imask (P:=Tryz.prog) (t:=t) (x:=1) (by omega)
 have m2:∀ t,ibinop Tryz.prog .and t (.int .u64 (n:Int)) (.int .u64 4294967295)=some (.int .u64 (n:Int)):=fun t=>imask (x:=n) (by omega)
 have m0:∀ t,ibinop Tryz.prog .and t (.int .u64 0) (.int .u64 4294967295)=some (.int .u64 0):=fun t=>imask (P:=Tryz.prog) (t:=t) (x:=0) (by omega)
 have s1:∀ t k,ibinop Tryz.prog .shr t (.int .u64 1) (.int k 32)=some (.int .u64 0):=fun t k=>ishr32 (P:=Tryz.prog) (t:=t) (k:=k) (n:=1)
 have s0:∀ t k,ibinop Tryz.prog .shr t (.int .u64 0) (.int k 32)=some (.int .u64 0):=fun t k=>ishr32 (P:=Tryz.prog) (t:=t) (k:=k) (n:=0)
 have s2:∀ t k,ibinop Tryz.prog .shr t (.int .u64 (n:Int)) (.int k 32)=some (.int .u64 0):=fun t k=>by
  have:=ishr32 (P:=Tryz.prog) (t:=t) (k:=k) (n:=n)
  rw [show n / 4294967296=0 by omega] at this
  exact this
 have wn:IntKind.u64.wrap (n:Int)=(n:Int):=w64 (by omega)
 have w0:IntKind.u64.wrap 0=0:=rfl
 simp +decide only [go_sem,WR,WS,m1,m2,m0,s1,s0,s2,Int.one_mul,Int.zero_mul,Int.mul_zero,Int.add_zero,Int.zero_add,wn,w0]
theorem mul_run (n:Nat) (h:Heap) (hn:n≤100000):Runs K 92 #[.int .u64 1,.int .u64 (n:Int)] h fun r w=>h=w∧r= .tuple #[.int .u64 0,.int .u64 (n:Int)]:=by
 refine Runs.of Kok (Does.intro rfl (by decide +kernel) Tryz.func92 rfl ?_)
 simp +decide only [go_sem,WR,WS]
 refine W_call Kok (Nat.le_refl _) (mul64_run n h hn) fun r w x hr=> ?_
 obtain ⟨hw,rfl⟩:=hr
 subst hw
 simp +decide only [go_sem,WR,WS]
theorem rep_run (n:Nat) (h:Heap) {q:Nat} (hg:h.get q= .cells [.int .i32 32] 1) (hq:q < h.size) (hn:n≤100000):Runs K 57 #[.slice (some ⟨q,0,none⟩) 1 1,.int .i64 (n:Int)] h fun r w=>∃ a c,r= .slice a n c∧Sl w 1 a n c (rv (List.replicate n 32)):=by
 refine Runs.of Kok (Does.intro rfl (by decide +kernel) Tryz.func57 rfl ?_)
 have n0:¬ (n:Int) < 0:=by omega
 have c1:IntKind.u64.wrap (n:Int)=(n:Int):=w64 (by omega)
 have c2:IntKind.u64.wrap 1=1:=rfl
 have c3:IntKind.i64.wrap (n:Int)=(n:Int):=wrap_i64 (by omega) (by omega)
 have c4:¬ (9223372036854775807:Int) < (n:Int):=by omega
 obtain ⟨w1,e1,x1,hs1,z1⟩:=lay1 h (.cells (rv (bz n 0)) 1)
 have hfl:(List.replicate n [Value.int .i32 0]).flatten=rv (bz n 0):=by
  simp [bz,rv,intCells,List.flatten_replicate_singleton]
 have mk:imk h.size 1 4 [.int .i32 0] (n:Int) (n:Int)=some (.slice (some ⟨h.size,0,none⟩) n n,some (.cells (rv (bz n 0)) 1)):=by
  rw [← hfl]
  exact imk_ok (by omega) (by omega) (by omega) (by omega)
 have gq:w1.get q=_:=(x1.2 q hq).trans hg
 have isq:islice w1 1 (.slice (some ⟨q,0,none⟩) 1 1)=some [.int .i32 32]:=by
  simp [islice,Heap.look,gq,Blk.read]
 have cp:=icp_ok (low:=h.size) (o:=0) (n:=n) z1 (Nat.le_refl _) isq rfl (by rw [bz_length (by omega)];omega)
 obtain ⟨w2,e2,x2,hs2,z2,k2⟩:=put1 x1 (Nat.le_refl _) (.cells (splice (rv (bz n 0)) 0 (([.int .i32 32]:List Value).take (min 1 n))) 1)
 have hsp:splice (rv (bz n 0)) 0 (([.int .i32 32]:List Value).take (min 1 n))=rv (bz n (min 1 n)):=by
  by_cases hn0:n=0
  ·subst hn0
   rfl
  ·have:min 1 n=1:=by omega
   rw [this]
   exact bz_more (n:=n) (k:=0) (m:=1) (by omega)
 rw [hsp] at z2
 rw [e2] at cp
 simp +decide only [go_sem,WR,WS,n0,c1,c2]
 refine W_call Kok (Nat.le_refl _) (mul_run n h hn) fun r w x hr=> ?_
 obtain ⟨hw,rfl⟩:=hr
 subst hw
 simp +decide only [go_sem,WR,WS,c4,c3,mk,e1,cp]
 refine W_loop (α:=Nat) (fun k e W=>k≤n∧(n≠0→1≤k)∧e.size=48∧Ext h W∧h.size < W.size∧W.get h.size= .cells (rv (bz n k)) 1∧e.get 7= .slice (some ⟨h.size,0,none⟩) n n∧e.get 8= .int .i64 (k:Int)) (fun k=>n - k) (min 1 n) ?_ ?_
 ·exact ⟨by omega,by omega,by simp +decide only [go_sem],x2,by omega,z2,by simp +decide only [go_sem],by simp +decide only [go_sem]⟩
 rintro k e W ⟨hk,hk1,hsz,xW,hW,gW,e7,e8⟩ next
 by_cases hkn:(k:Int) < (n:Int)
 ·have hk0:=hk1 (by omega)
  have r1:=irsl_tail_own (l:=k) (N:=n) gW (by omega) (by simp [big];omega)
  have r2:=irsl_head_own (u:=k) (N:=n) gW hk (by omega) (by simp [big];omega)
  have isW:islice W 1 (.slice (some ⟨h.size,0,none⟩) k n)=some (rv (List.replicate k 32)):=by
   have hl:=bz_length hk
   simp only [islice,Heap.look,gW,Blk.read]
   rw [if_pos ⟨trivial,by omega⟩,List.drop_zero,Nat.mul_one,rv_take]
   unfold bz
   rw [List.take_append_of_le_length (by simp),List.take_of_length_le (by simp)]
  have cp2:=icp_ok (low:=h.size) (o:=k) (n:=n - k) gW (Nat.le_refl _) isW (by simp [rv_length]) (by rw [bz_length hk];omega)
  obtain ⟨w3,e3,x3,hs3,z3,k3⟩:=put1 xW (Nat.le_refl h.size) (.cells (splice (rv (bz n k)) k ((rv (List.replicate k 32)).take (min k (n - k)))) 1)
  rw [e3] at cp2
  rw [rv_take,List.take_replicate,show min (min k (n - k)) k=min k (n - k) by omega,bz_more (by omega)] at z3
  have i1:IntKind.i64.wrap ((k:Int)+((min k (n - k):Nat):Int))=((k+min k (n - k):Nat):Int):=iadd (by omega)
  simp +decide only [go_sem,WR,WS,hsz,e7,e8,hkn,r1,r2,cp2,i1]
  exact next (k+min k (n - k)) _ _ ⟨by omega,by omega,by simp +decide only [go_sem,hsz],x3,by omega,z3,by simp +decide only [go_sem,hsz,e7],by simp +decide only [go_sem,hsz]⟩ (by omega)
 ·have hkn':k=n:=by omega
  subst hkn'
  simp +decide only [go_sem,WR,WS,hsz,e7,e8,hkn]
  refine ⟨_,_,rfl,?_⟩
  have e:bz k k=List.replicate k 32:=by simp [bz]
  rw [e] at gW
  exact Sl.made hW gW (by simp [rv_length]) (by simp [big];omega)
theorem count2_run (x y:Nat) (h:Heap) {b:Nat} (hg:h.get b= .cells [.int .i64 (x:Int),.int .i64 (y:Int)] 1) (hb:b < h.size) (h1:1≤x) (hx:x≤100000) (hy:y≤100000) :
  Runs K 93 #[.slice (some ⟨b,0,none⟩) 2 2] h fun r w=>h=w∧r= .tuple #[.int .i64 (if ok2 x y=true then ((x*y:Nat):Int) else 0),.bool (ok2 x y)]:=by
 refine Runs.of Kok (Does.intro rfl (by decide +kernel) Tryz.func93 rfl ?_)
 have q1:¬ (x:Int) < 0:=by omega
 have q2:IntKind.i64.wrap ((4096:Int).tdiv 1)=4096:=rfl
 have q4:¬ (x:Int)=0:=by omega
 have q5:max (1:Int) (x:Int)=(x:Int):=by omega
 have q6:IntKind.i64.wrap (1*(x:Int))=(x:Int):=by rw [wrap_i64 (by omega) (by omega)];omega
 have q7:IntKind.i64.wrap 1=1:=rfl
 have q8:IntKind.i64.wrap 2=2:=rfl
 have p1:¬ (y:Int) < 0:=by omega
 have p2:IntKind.i64.wrap ((4096:Int).tdiv (x:Int))=((4096 / x:Nat):Int):=by
  have hd:4096 / x≤4096:=Nat.div_le_self _ _
  have e:(4096:Int).tdiv (x:Int)=((4096 / x:Nat):Int):=by
   rw [Int.tdiv_eq_ediv_of_nonneg (by omega),Int.natCast_ediv]
   rfl
  rw [e]
  generalize 4096 / x=q at *
  exact wrap_i64 (by omega) (by omega)
 have at1:([Value.int .i64 (x:Int),Value.int .i64 (y:Int)]:List Value)[1]? =some (.int .i64 (y:Int)):=rfl
 simp +decide only [go_sem,WR,WS]
 rw [W_round]
 by_cases c1:(4096:Int) < (x:Int)
 ·simp +decide only [go_sem,WR,WS,hg,q1,ibinop_quo (show (1:Int)≠0 by omega),q2,c1]
  have:ok2 x y=false:=by
   simp only [ok2,Bool.and_eq_false_iff,decide_eq_false_iff_not]
   omega
  rw [this]
  simp
 simp +decide only [go_sem,WR,WS,hg,q1,ibinop_quo (show (1:Int)≠0 by omega),q2,c1,q4,q5,q6,q7]
 rw [W_round]
 by_cases c2:((4096 / x:Nat):Int) < (y:Int)
 ·simp +decide only [go_sem,WR,WS,hg,at1,show Int.toNat 1=1 from rfl,p1,ibinop_quo (show (x:Int)≠0 by omega),p2,c2]
  have:ok2 x y=false:=by
   simp only [ok2,Bool.and_eq_false_iff,decide_eq_false_iff_not]
   omega
  rw [this]
  simp
 have ho:ok2 x y=true:=by
  simp only [ok2,Bool.and_eq_true,decide_eq_true_eq]
  omega
 have hxy:x*y≤4096:=by
  have h1:y≤4096 / x:=by omega
  have:=Nat.mul_le_mul_left x h1
  have h2:=Nat.mul_div_le 4096 x
  omega
 rw [ho]
 by_cases y0:(y:Int)=0
 ·have p5:max (1:Int) (y:Int)=1:=by omega
  have p6:IntKind.i64.wrap ((x:Int)*1)=(x:Int):=by rw [wrap_i64 (by omega) (by omega)];omega
  simp +decide only [go_sem,WR,WS,hg,at1,show Int.toNat 1=1 from rfl,p1,ibinop_quo (show (x:Int)≠0 by omega),p2,c2,eq_true y0,p5,p6,q8]
  rw [W_round]
  simp +decide only [go_sem,WR,WS,hg]
  have:y=0:=by omega
  subst this
  simp
 ·have p5:max (1:Int) (y:Int)=(y:Int):=by omega
  have p6:IntKind.i64.wrap ((x:Int)*(y:Int))=((x*y:Nat):Int):=by
   rw [← Int.natCast_mul]
   exact wrap_i64 (by omega) (by omega)
  simp +decide only [go_sem,WR,WS,hg,at1,show Int.toNat 1=1 from rfl,p1,ibinop_quo (show (x:Int)≠0 by omega),p2,c2,y0,p5,p6,q8]
  rw [W_round]
  simp +decide only [go_sem,WR,WS,hg]
end Go.Proofs.YtachkofbmodnnaaGreatDoor.M8
