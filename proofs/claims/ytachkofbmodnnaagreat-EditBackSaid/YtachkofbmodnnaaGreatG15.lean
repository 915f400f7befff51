/- Proved here: parts of the way to BEditBack (BR7 BN20 BN21 BN22); no condition beyond those that each theorem names. -/
import Derived.Test.YtachkofbmodnnaaGreatG14
import Derived.Test.YtachkofbmodnnaaGreatG13
set_option linter.unusedSimpArgs false
set_option linter.unusedVariables false
namespace Go.Im.Lexing
def rtab:Nat→List Int
 | 1=>[32]
 | 4=>t4
 | 5=>t5
 | 6=>t6
 | 7=>t7
 | 8=>[34,35,36,37,38,64,94,96,123,125,168,8746,8745,8801,8802,8834,8835,8866,8867,9077,9082,9066,9080,9674]
 | _=>[]
theorem Zsc (c:Int):(rtab 8).elem c=t8.elem c:=by
 simp only [rtab,t8,List.elem_cons,List.elem_nil,Bool.or_assoc]
 cases c == 9080<;>simp
theorem Zqo {c:Int} (hl:isL c=false) (hd:(isD c || decide (c=175))=false) {k:Nat} (h1:1≤k) (h8:k≤8) (hn:∀ j,1≤j→j < k→(rtab j).elem c=false) (hk:(rtab k).elem c=true):kindOf c=k:=by
 have hx:∀ {d:Bool},(if d=true then (0:Nat) else 0)=0:=fun {d}=>by split<;>rfl
 unfold kindOf
 rw [hl,hd]
 have hc:k=1∨k=2∨k=3∨k=4∨k=5∨k=6∨k=7∨k=8:=Ya
 have n1:=fun h=>hn 1 Ya h
 have n4:=fun h=>hn 4 Ya h
 have n5:=fun h=>hn 5 Ya h
 have n6:=fun h=>hn 6 Ya h
 have n7:=fun h=>hn 7 Ya h
 have e1:(rtab 1).elem c=decide (c=32):=by
  show (c == 32 || false)=_
  rw [Bool.or_false]
  rfl
 rw [e1] at n1
 rcases hc with rfl | rfl | rfl | rfl | rfl | rfl | rfl | rfl
 ·rw [e1] at hk
  rw [if_pos (by simpa using hk)]
 ·cases hk
 ·cases hk
 ·have hk':t4.elem c=true:=hk
  have h32:¬ c=32:=Y8
  simp only [h32,hk',if_false,if_true,Bool.false_eq_true]
 ·have hk':t5.elem c=true:=hk
  have m4:t4.elem c=false:=n4 Ya
  have h32:¬ c=32:=Y8
  simp only [h32,hk',m4,if_false,if_true,Bool.false_eq_true]
 ·have hk':t6.elem c=true:=hk
  have m4:t4.elem c=false:=n4 Ya
  have m5:t5.elem c=false:=n5 Ya
  have h32:¬ c=32:=Y8
  simp only [h32,hk',m4,m5,if_false,if_true,Bool.false_eq_true]
 ·have hk':t7.elem c=true:=hk
  have m4:t4.elem c=false:=n4 Ya
  have m5:t5.elem c=false:=n5 Ya
  have m6:t6.elem c=false:=n6 Ya
  have h32:¬ c=32:=Y8
  simp only [h32,hk',m4,m5,m6,if_false,if_true,Bool.false_eq_true]
 ·have hk':t8.elem c=true:=by rw [← Zsc];exact hk
  have m4:t4.elem c=false:=n4 Ya
  have m5:t5.elem c=false:=n5 Ya
  have m6:t6.elem c=false:=n6 Ya
  have m7:t7.elem c=false:=n7 Ya
  have h32:¬ c=32:=Y8
  simp only [h32,hk',m4,m5,m6,m7,if_false,if_true,Bool.false_eq_true]
theorem ZmF {c:Int} (hl:isL c=false) (hd:(isD c || decide (c=175))=false) (hn:∀ j,1≤j→j < 9→(rtab j).elem c=false):kindOf c=0:=by
 unfold kindOf
 rw [hl,hd]
 have e1:(rtab 1).elem c=decide (c=32):=by
  show (c == 32 || false)=_
  rw [Bool.or_false]
  rfl
 have n1:=hn 1 Ya Ya
 rw [e1] at n1
 have h32:¬ c=32:=by simpa using n1
 have m4:t4.elem c=false:=hn 4 Ya Ya
 have m5:t5.elem c=false:=hn 5 Ya Ya
 have m6:t6.elem c=false:=hn 6 Ya Ya
 have m7:t7.elem c=false:=hn 7 Ya Ya
 have m8:t8.elem c=false:=by rw [← Zsc];exact hn 8 Ya Ya
 simp only [h32,m4,m5,m6,m7,m8,if_false,if_true,Bool.false_eq_true]
theorem ZqY {l:List Int} {c:Int} {i:Nat} (h:l[i]? =some c):l.elem c=true:=List.elem_eq_true_of_mem (List.mem_of_getElem? h)
theorem ZoS {l:List Int} {c:Int} (h:∀ i,i < l.length→l[i]? ≠some c):l.elem c=false:=by
 cases he:l.elem c with
 | false=>rfl
 | true =>
   obtain ⟨i,hi,hg⟩:=List.getElem_of_mem (List.mem_of_elem_eq_true he)
   exact absurd (by rw [List.getElem?_eq_getElem hi,hg]) (h i hi)
end Go.Im.Lexing
namespace Go.Proofs.YtachkofbmodnnaaGreat.R7
open Go Go.Im Go.Im.Limbs Go.Im.Lexing Go.Im.Dec Go.Proofs Go.RowKit Hd N16
set_option maxRecDepth 100000
theorem ZlA (k:Nat) (h:Heap) (h1:1≤k) (h8:k≤8):Runs K 130 #[.int .i64 (k:Int)] h fun r w=>∃ a n c,r= .slice a n c∧Sl w 1 a n c (rv (rtab k)):=by
 refine Runs.of Kok (Does.intro rfl Ye Tryz.func130 rfl ?_)
 have hc:k=1∨k=2∨k=3∨k=4∨k=5∨k=6∨k=7∨k=8:=Ya
 rcases hc with rfl | rfl | rfl | rfl | rfl | rfl | rfl | rfl
 ·simp +decide only [go_sem,WR,WS,Int.natCast_one,Int.cast_ofNat_Int]
  exact ⟨_,_,_,rfl,Sl.made Yp (Zbc _ _) rfl YT⟩
 ·simp +decide only [go_sem,WR,WS,Int.natCast_one,Int.cast_ofNat_Int]
  exact ⟨_,_,_,rfl,Sl.nil _ _⟩
 ·simp +decide only [go_sem,WR,WS,Int.natCast_one,Int.cast_ofNat_Int]
  exact ⟨_,_,_,rfl,Sl.nil _ _⟩
 ·simp +decide only [go_sem,WR,WS,Int.natCast_one,Int.cast_ofNat_Int]
  exact ⟨_,_,_,rfl,Sl.made Yp (Zbc _ _) rfl YT⟩
 ·simp +decide only [go_sem,WR,WS,Int.natCast_one,Int.cast_ofNat_Int]
  exact ⟨_,_,_,rfl,Sl.made Yp (Zbc _ _) rfl YT⟩
 ·simp +decide only [go_sem,WR,WS,Int.natCast_one,Int.cast_ofNat_Int]
  exact ⟨_,_,_,rfl,Sl.made Yp (Zbc _ _) rfl YT⟩
 ·simp +decide only [go_sem,WR,WS,Int.natCast_one,Int.cast_ofNat_Int]
  exact ⟨_,_,_,rfl,Sl.made Yp (Zbc _ _) rfl YT⟩
 ·simp +decide only [go_sem,WR,WS,Int.natCast_one,Int.cast_ofNat_Int]
  exact ⟨_,_,_,rfl,Sl.made Yp (Zbc _ _) rfl YT⟩
theorem ZdX (c:Int) (h:Heap):Runs K 108 #[.int .i32 c] h fun r _=>r= .int .i64 (kindOf c):=by
 refine Runs.of Kok (Does.intro rfl Ye Tryz.func108 rfl ?_)
 simp +decide only [go_sem,WS]
 (rw [WR];simp +decide only [go_sem,WS])
 refine ZhK (J:=fun e w=>e.size=57∧e.get 0= .int .i32 c∧e.get 27= .bool (isL c)∧w=h) YB ?_ ?_
 ·by_cases a1:97≤c
  ·by_cases a2:c≤122
   ·have il:isL c=true:=by simp [isL];omega
    simp +decide only [go_sem,WR,WS,a1,a2,il]
   ·have a3:65≤c:=by omega
    have a4:¬ c≤90:=Ya
    have a5:¬ c=95:=Ya
    have il:isL c=decide (c=8710):=by simp [isL,a2,a4,a5]
    by_cases a6:c=8710
    ·simp +decide only [go_sem,WR,WS,a1,a2,a3,a4,a5,a6,il]
     rfl
    ·simp +decide only [go_sem,WR,WS,a1,a2,a3,a4,a5,a6,il]
  ·by_cases a3:65≤c
   ·by_cases a4:c≤90
    ·have il:isL c=true:=by simp [isL];omega
     simp +decide only [go_sem,WR,WS,a1,a3,a4,il]
    ·have a6:¬ c=8710:=by omega
     have il:isL c=decide (c=95):=by simp [isL,a1,a4,a6]
     by_cases a5:c=95
     ·simp +decide only [go_sem,WR,WS,a1,a3,a4,a5,il]
      rfl
     ·simp +decide only [go_sem,WR,WS,a1,a3,a4,a5,a6,il]
   ·have a5:¬ c=95:=by omega
    have a6:¬ c=8710:=Ya
    have il:isL c=false:=by simp [isL,a1,a3,a5,a6]
    simp +decide only [go_sem,WR,WS,a1,a3,a5,a6,il]
 rintro e w ⟨hsz,e0,e27,rfl⟩
 have h32:isL c=true→¬ c=32:=by
  intro hl hh
  subst hh
  cases hl
 cases hl:isL c with
 | true =>
   rw [hl] at e27
   simp +decide only [go_sem,WR,WS,hsz,e0,e27]
   simp only [kindOf,h32 hl,hl,if_true,if_false]
   rfl
 | false =>
 rw [hl] at e27
 simp +decide only [go_sem,WS,hsz,e27]
 refine ZhK (J:=fun e w'=>e.size=57∧e.get 0= .int .i32 c∧e.get 37= .bool (isD c || decide (c=175))∧w'=w) YB ?_ ?_
 ·by_cases a1:48≤c
  ·by_cases a2:c≤57
   ·have il:isD c=true:=by simp [isD,a1,a2]
    simp +decide only [go_sem,WR,WS,hsz,e0,a1,a2,il]
   ·have il:isD c=false:=by simp [isD,a2]
    by_cases a3:c=175
    ·simp +decide only [go_sem,WR,WS,hsz,e0,a1,a2,il,a3]
    ·simp +decide only [go_sem,WR,WS,hsz,e0,a1,a2,il,a3]
  ·have il:isD c=false:=by simp [isD,a1]
   have a3:¬ c=175:=Ya
   simp +decide only [go_sem,WR,WS,hsz,e0,a1,il,a3]
 rintro e w' ⟨hsz,e0,e37,rfl⟩
 cases hd:(isD c || decide (c=175)) with
 | true =>
   have h32':¬ c=32:=by
    intro hh
    subst hh
    cases hd
   rw [hd] at e37
   simp +decide only [go_sem,WR,WS,hsz,e0,e37]
   simp only [kindOf,h32',hl,hd,if_true,if_false,Bool.false_eq_true]
   rfl
 | false =>
 rw [hd] at e37
 simp +decide only [go_sem,WR,WS,hsz,e0,e37]
 refine Zah (α:=Nat) (fun k e w=>1≤k∧k≤9∧e.size=57∧Ext w' w∧e.get 0= .int .i32 c∧e.get 3= .int .i64 (k:Int)∧∀ j,1≤j→j < k→(rtab j).elem c=false) (fun k=>9 - k) 1 ?_ ?_
 ·exact ⟨Nat.le_refl _,by omega,Yb,Ext.refl _,Yf,by simp +decide only [go_sem,hsz];rfl,fun j h1 h2=>by omega⟩
 ·rintro k e w ⟨hk1,hk9,hsz,hxw,e0,e3,hnot⟩ next
  by_cases hk:(k:Int)≤8
  ·simp +decide only [go_sem,WR,WS,hsz,e0,e3,hk]
   refine Zaa Kok hxw.1 (ZlA k w hk1 Ya) fun r w1 x1 hr=> ?_
   obtain ⟨a,n,cc,rfl,s⟩:=hr
   have hn:(rtab k).length=n:=by have:=s.length;rw [Zcl] at this;omega
   have hnb:(rtab k).length≤30:=by
    rcases (show k=1∨k=2∨k=3∨k=4∨k=5∨k=6∨k=7∨k=8 by omega) with rfl | rfl | rfl | rfl | rfl | rfl | rfl | rfl<;>decide
   simp +decide only [go_sem,WR,WS,hsz,e0,e3]
   refine Zah (α:=Nat) (fun j e w=>j≤n∧e.size=57∧w=w1∧e.get 0= .int .i32 c∧e.get 3= .int .i64 (k:Int)∧e.get 4= .slice a n cc∧e.get 5= .int .i64 (j:Int)∧∀ i,i < j→(rtab k)[i]? ≠some c) (fun j=>n - j) 0 ?_ ?_
   ·exact ⟨Nat.zero_le _,Yb,rfl,Yf,Yq,Yb,by simp +decide only [go_sem,hsz];rfl,fun i hi=>by omega⟩
   ·rintro j e w2 ⟨hj,hsz,rfl,e0,e3,e4,e5,hno⟩ next2
    by_cases hjn:(j:Int) < (n:Int)
    ·obtain ⟨x,hx⟩:∃ x,(rtab k)[j]? =some x:=⟨_,List.getElem?_eq_getElem Ya⟩
     obtain ⟨b,o,cs,rfl,hb,hg,hcs⟩:=s.one (ZlU hx)
     have j0:(0:Int)≤(j:Int):=Ya
     by_cases hxc:x=c
     ·simp +decide only [go_sem,WR,WS,hsz,e0,e3,e4,e5,hjn,j0,Int.toNat_natCast,Nat.mul_one,hg,hcs,hxc]
      rw [Zqo hl hd hk1 Ya hnot (ZqY (by rw [hx,hxc]))]
     ·have i2:IntKind.i64.wrap ((j:Int)+1)=((j+1:Nat):Int):=by rw [wrap_i64 Ya Ya];omega
      simp +decide only [go_sem,WR,WS,hsz,e0,e3,e4,e5,hjn,j0,Int.toNat_natCast,Nat.mul_one,hg,hcs,hxc,i2]
      refine next2 (j+1) _ _ ⟨by omega,Yb,rfl,Yf,Yq,Yg,Yb,?_⟩ Ya
      intro i hi
      by_cases hij:i=j
      ·subst hij
       rw [hx]
       intro hh
       cases hh
       exact hxc rfl
      ·exact hno i Ya
    ·have i2:IntKind.i64.wrap ((k:Int)+1)=((k+1:Nat):Int):=by rw [wrap_i64 Ya Ya];omega
     simp +decide only [go_sem,WR,WS,hsz,e0,e3,e4,e5,hjn,i2]
     refine next (k+1) _ _ ⟨by omega,by omega,Yb,hxw.trans x1,Yf,Yb,?_⟩ Ya
     intro i h1 h2
     by_cases hik:i=k
     ·subst hik
      exact ZoS fun q hq=>hno q Ya
     ·exact hnot i h1 Ya
  ·have:k=9:=by omega
   subst this
   simp +decide only [go_sem,WR,WS,hsz,e0,e3,hk]
   rw [ZmF hl hd hnot]
   rfl
theorem ZfM (c:Int) (h:Heap):Runs K 133 #[.int .i32 c] h fun r _=>r= .bool (isW c):=by
 refine Runs.of Kok (Does.intro rfl Ye Tryz.func133 rfl ?_)
 simp +decide only [go_sem,WR,WS]
 refine Zaa Kok (Nat.le_refl _) (ZdX c h) fun r w x hr=> ?_
 subst hr
 by_cases h2:kindOf c=2
 ·have h2':((kindOf c:Nat):Int)=2:=by omega
  simp +decide only [go_sem,WR,WS,h2']
  simp [isW,h2]
 ·have h2':¬ ((kindOf c:Nat):Int)=2:=by omega
  by_cases a1:48≤c
  ·simp +decide only [go_sem,WR,WS,h2',a1]
   simp [isW,h2,isD,a1]
  ·simp +decide only [go_sem,WR,WS,h2',a1]
   simp [isW,h2,isD,a1]
theorem Zl1 (l:List Int) {v:Value} (h:Heap) (t:Tx h v l) (hm:l.length≤1099511627776):Runs K 113 #[v] h fun r _=>r= .bool (Zat l):=by
 obtain ⟨a,c,rfl⟩:=t.open
 refine Runs.of Kok (Does.intro rfl Ye Tryz.func113 rfl ?_)
 simp +decide only [go_sem,WR,WS]
 refine Zah (α:=Nat) (fun i e w=>i≤l.length∧e.size=31∧Ext h w∧e.get 0= .slice a l.length c∧e.get 3= .int .i64 (i:Int)∧(l.take i).all isW=true) (fun i=>l.length - i) 0 ?_ ?_
 ·exact ⟨Nat.zero_le _,Yc,Ext.refl _,Yc,by simp +decide only [go_sem];rfl,by simp⟩
 ·rintro i e w ⟨hi,hsz,hxw,e0,e3,hall⟩ next
  by_cases hil:(i:Int) < ((l.length:Nat):Int)
  ·obtain ⟨y,hy⟩:∃ y,l[i]? =some y:=⟨_,List.getElem?_eq_getElem Ya⟩
   obtain ⟨b,o,cs,q1,q2,q3,q4⟩:=(t.ext hxw).one hy
   cases q1
   have i0:(0:Int)≤(i:Int):=Ya
   simp +decide only [go_sem,WR,WS,hsz,e0,e3,hil,i0,Int.toNat_natCast,Nat.mul_one,q3,q4]
   refine Zaa Kok hxw.1 (ZfM y w) fun r w1 x1 hr=> ?_
   subst hr
   have i2:IntKind.i64.wrap ((i:Int)+1)=((i+1:Nat):Int):=Yd
   cases hyw:isW y with
   | true =>
     simp +decide only [go_sem,WR,WS,hsz,e0,e3,hyw,i2]
     refine next (i+1) _ _ ⟨by omega,Yb,hxw.trans x1,Yf,Yb,?_⟩ Ya
     obtain ⟨hg,hyg⟩:=List.getElem?_eq_some_iff.1 hy
     rw [List.take_succ_eq_append_getElem hg,hyg,List.all_append,hall]
     simp [hyw]
   | false =>
     have:Zat l=false:=by
      have h1:l.all isW=false:=by
       rw [List.all_eq_false]
       exact ⟨y,List.mem_of_getElem? hy,by simp [hyw]⟩
      simp [Zat,h1]
     simp +decide only [go_sem,WR,WS,hsz,e0,e3,hyw,this]
  ·have hall':l.all isW=true:=by rw [List.take_of_length_le Ya] at hall;exact hall
   by_cases h1:(1:Int)≤((l.length:Nat):Int)
   case neg =>
    have h1':¬ 1≤l.length:=Ya
    simp +decide only [go_sem,WR,WS,hsz,e0,e3,hil,h1]
    simp [Zat,h1']
   by_cases h24:((l.length:Nat):Int)≤24
   case neg =>
    have h1':¬ l.length≤24:=Ya
    simp +decide only [go_sem,WR,WS,hsz,e0,e3,hil,h1,h24]
    simp [Zat,h1']
   obtain ⟨y,hy⟩:∃ y,l[0]? =some y:=⟨_,List.getElem?_eq_getElem Ya⟩
   obtain ⟨b,o,cs,q1,q2,q3,q4⟩:=(t.ext hxw).one hy
   cases q1
   have q4':cs[o]? =some (.int .i32 y):=q4
   have p0:(0:Int) < ((l.length:Nat):Int):=Ya
   simp +decide only [go_sem,WR,WS,hsz,e0,e3,hil,h1,h24,p0,q3,q4']
   refine Zaa Kok hxw.1 (ZdX y w) fun r w1 x1 hr=> ?_
   subst hr
   simp +decide only [go_sem,WR,WS,hsz]
   have n1:1≤l.length:=Ya
   have n2:l.length≤24:=Ya
   have n3:decide (((kindOf y:Nat):Int)=2)=decide (kindOf y=2):=decide_eq_decide.2 Ya
   simp only [Zat,hy,n1,n2,hall',n3,decide_true,Bool.true_and,Bool.and_true]
theorem Zdz (l:List Int) (i:Nat) {v:Value} (h:Heap) (t:Tx h v l) (hm:l.length≤1099511627776) (hi:i≤l.length) :
  Runs K 84 #[v,.int .i64 (i:Int)] h fun r w=>r= .int .i64 ((i+blanks (l.drop i):Nat):Int)∧w=h:=by
 obtain ⟨a,c,rfl⟩:=t.open
 refine Runs.of Kok (Does.intro rfl Ye Tryz.func84 rfl ?_)
 obtain ⟨D,hD⟩:∃ D,D=blanks (l.drop i):=⟨_,rfl⟩
 rw [← hD]
 have hDl:i+D≤l.length:=by
  have:=Zgh (p:=fun c=>decide (c=32)) (l.drop i)
  rw [List.length_drop] at this
  rw [hD]
  unfold blanks
  omega
 simp +decide only [go_sem,WR,WS]
 refine Zah (α:=Nat) (fun k e w=>k≤D∧e.size=19∧w=h∧e.get 0= .slice a l.length c∧e.get 1= .int .i64 ((i+k:Nat):Int)) (fun k=>D - k) 0 ?_ ?_
 ·exact ⟨Nat.zero_le _,Yc,rfl,Yc,by simp +decide only [go_sem,Nat.add_zero]⟩
 ·rintro k e w ⟨hk,hsz,rfl,e0,e1⟩ next
  have i2:IntKind.i64.wrap (((i+k:Nat):Int)+1)=((i+(k+1):Nat):Int):=Yd
  have i0:(0:Int)≤((i+k:Nat):Int):=Ya
  by_cases hkl:k < D
  ·obtain ⟨x,hx,hdx⟩:=ZhP (p:=fun c=>decide (c=32)) (l:=l.drop i) (k:=k) (by rw [hD] at hkl;exact hkl)
   rw [List.getElem?_drop] at hx
   have hx32:x=32:=by simpa using hdx
   have hil':((i+k:Nat):Int) < ((l.length:Nat):Int):=Ya
   obtain ⟨b,o,cs,q1,q2,q3,q4⟩:=t.one hx
   cases q1
   simp +decide only [go_sem,WR,WS,hsz,e0,e1,hil',i0,Int.toNat_natCast,Nat.mul_one,q3,q4,hx32,i2]
   exact next (k+1) _ _ ⟨by omega,Yb,rfl,Yf,Yb⟩ Ya
  ·have hkD:k=D:=by omega
   subst hkD
   by_cases hil:((i+k:Nat):Int) < ((l.length:Nat):Int)
   case neg =>
    simp +decide only [go_sem,WR,WS,hsz,e0,e1,hil]
   obtain ⟨x,hx⟩:∃ x,l[i+k]? =some x:=⟨_,List.getElem?_eq_getElem Ya⟩
   have hdx:¬ x=32:=by
    have:=ZfC (p:=fun c=>decide (c=32)) (l:=l.drop i) (c:=x) (by rw [List.getElem?_drop,← hx,hD];rfl)
    simpa using this
   obtain ⟨b,o,cs,q1,q2,q3,q4⟩:=t.one hx
   cases q1
   simp +decide only [go_sem,WR,WS,hsz,e0,e1,hil,i0,Int.toNat_natCast,Nat.mul_one,q3,q4,hdx]
theorem Zi1 (l:List Int) (i:Nat) {v:Value} (h:Heap) (t:Tx h v l) (hne:l≠[]) (hm:l.length≤1099511627776) (hi:i≤l.length) :
  Runs K 112 #[v,.int .i64 (i:Int)] h fun r w=>Tx w r ((l.drop i).takeWhile isW)∧∃ a,r= .slice a ((l.drop i).takeWhile isW).length big:=by
 obtain ⟨a,c,rfl⟩:=t.open
 refine Runs.of Kok (Does.intro rfl Ye Tryz.func112 rfl ?_)
 obtain ⟨D,hD⟩:∃ D,D=(l.drop i).takeWhile isW:=⟨_,rfl⟩
 rw [← hD]
 have hDl:i+D.length≤l.length:=by
  have:=Zgh (p:=isW) (l.drop i)
  rw [List.length_drop,← hD] at this
  omega
 simp +decide only [go_sem,WR,WS]
 refine Zah (α:=Nat) (fun k e w=>k≤D.length∧e.size=24∧Ext h w∧e.get 0= .slice a l.length c∧e.get 1= .int .i64 (i:Int)∧e.get 5= .int .i64 ((i+k:Nat):Int)) (fun k=>D.length - k) 0 ?_ ?_
 ·exact ⟨Nat.zero_le _,Yc,Ext.refl h,Yc,Yc,by simp +decide only [go_sem,Nat.add_zero]⟩
 ·rintro k e w ⟨hk,hsz,hxw,e0,e1,e5⟩ next
  have i2:IntKind.i64.wrap (((i+k:Nat):Int)+1)=((i+(k+1):Nat):Int):=Yd
  have i0:(0:Int)≤((i+k:Nat):Int):=Ya
  by_cases hkl:k < D.length
  ·obtain ⟨x,hx,hdx⟩:=ZhP (p:=isW) (l:=l.drop i) (k:=k) (by rw [← hD];exact hkl)
   rw [List.getElem?_drop] at hx
   have hil':((i+k:Nat):Int) < ((l.length:Nat):Int):=Ya
   obtain ⟨b,o,cs,q1,q2,q3,q4⟩:=(t.ext hxw).one hx
   cases q1
   simp +decide only [go_sem,WR,WS,hsz,e0,e1,e5,hil',i0,Int.toNat_natCast,Nat.mul_one,q3,q4]
   refine Zaa Kok hxw.1 (ZfM x w) fun r w2 x2 hr=> ?_
   subst hr
   simp +decide only [go_sem,WR,WS,hsz,e0,e1,e5,hdx,i2]
   exact next (k+1) _ _ ⟨by omega,Yb,hxw.trans x2,Yf,Yk,Yb⟩ Ya
  ·have hkD:k=D.length:=by omega
   subst hkD
   have hcut:(l.drop i).take (i+D.length - i)=D:=by
    rw [Nat.add_sub_cancel_left]
    have:=Zdt (p:=isW) (l.drop i)
    rw [← hD] at this
    exact this
   by_cases hil:((i+D.length:Nat):Int) < ((l.length:Nat):Int)
   case neg =>
    obtain ⟨a',c1,c2,c3⟩:=(t.ext hxw).cut hne (lo:=i) (hi:=i+D.length) Ya hDl
    rw [hcut] at c2
    simp +decide only [go_sem,WR,WS,hsz,e0,e1,e5,hil,c1]
    rw [Nat.add_sub_cancel_left] at c2 ⊢
    exact ⟨c2,_,rfl⟩
   obtain ⟨x,hx⟩:∃ x,l[i+D.length]? =some x:=⟨_,List.getElem?_eq_getElem Ya⟩
   have hdx:isW x=false:=by
    refine ZfC (l:=l.drop i) ?_
    rw [List.getElem?_drop,← hD]
    exact hx
   obtain ⟨b,o,cs,q1,q2,q3,q4⟩:=(t.ext hxw).one hx
   cases q1
   simp +decide only [go_sem,WR,WS,hsz,e0,e1,e5,hil,i0,Int.toNat_natCast,Nat.mul_one,q3,q4]
   refine Zaa Kok hxw.1 (ZfM x w) fun r w2 x2 hr=> ?_
   subst hr
   obtain ⟨a',c1,c2,c3⟩:=(t.ext (hxw.trans x2)).cut hne (lo:=i) (hi:=i+D.length) Ya hDl
   rw [hcut] at c2
   simp +decide only [go_sem,WR,WS,hsz,e0,e1,e5,hdx,c1]
   rw [Nat.add_sub_cancel_left] at c2 ⊢
   exact ⟨c2,_,rfl⟩
end Go.Proofs.YtachkofbmodnnaaGreat.R7
namespace Go.Proofs.YtachkofbmodnnaaGreat.N20
open Go Go.Im Go.Im.Limbs Go.Im.Lexing Go.Proofs Go.RowKit Hd N1 N10 N13 N15 N16 N17 N18 N19
set_option maxRecDepth 100000
theorem ZeJ {w:List Int} (h:Zat w=true):1≤w.length:=by
 simp only [Zat,Bool.and_eq_true,decide_eq_true_eq] at h
 exact h.1.1.1
theorem ZhN {h0 h:Heap} (x:Ext h0 h) {l:List Int} {tv:Value} (t:Tx h0 tv l) (hne:l≠[]) (hm:l.length≤512) {xb at' i k:Nat} {xs:List XT} (L:LX h0.size h xb tv at' xs) (hi':i≤l.length) (hat:at'≤i) :
  Does K h0.size 93 #[.pointer (some ⟨xb,0,none⟩),.int .i64 (i:Int),.int .i64 (k:Int)] h fun v h'=>(Zb2 k (l.drop i)=none∧v= .bool false) ∨
   ∃ tk m rest,Zb2 k (l.drop i)=some (tk,m)∧v= .bool true∧Arr5 rest∧at' < i+m∧i+m≤l.length∧LX h0.size h' xb tv (i+m) (xs++[((at',tk),rest)]):=by
 have t':=t
 rcases t with ⟨hh,_⟩ | ⟨b,o,cs,rfl,hb,hgb,hol,hcs⟩
 ·exact absurd hh hne
 have L':=L
 obtain ⟨hl,hxb,hbd,hall,ov,hg,own,hv⟩:=L
 obtain ⟨w,hw⟩:∃ w,w=(l.drop i).takeWhile isW:=⟨_,rfl⟩
 have hwl:i+w.length≤l.length:=by
  have:=Zgh (p:=isW) (l.drop i)
  rw [List.length_drop] at this
  rw [hw]
  omega
 have hcut:(l.drop i).take (i+w.length - i)=w:=by
  rw [Nat.add_sub_cancel_left,hw]
  exact Zdt _
 refine Does.intro rfl Ye Tryz.func93 rfl ?_
 have k1:=x.1
 simp +decide only [go_sem,WR,WS]
 refine Zah (α:=Nat) (fun j e w'=>j≤w.length∧e.size=50∧Ext h w'∧e.get 0= .pointer (some ⟨xb,0,none⟩)∧e.get 1= .int .i64 (i:Int)∧e.get 2= .int .i64 (k:Int)∧e.get 7= .int .i64 ((i+j:Nat):Int)) (fun j=>w.length - j) 0 ?_ ?_
 ·exact ⟨Nat.zero_le _,Yc,Ext.refl h,Yc,Yc,Yc,Yc⟩
 ·rintro j e w' ⟨hj,hsz,hxw,e0,e1,e2,e7⟩ next
  have x0w:=x.trans hxw
  have hgw:w'.get xb=_:=(hxw.2 _ hxb).trans hg
  by_cases hjl:j < w.length
  ·obtain ⟨y,hy,hwy⟩:=ZhP (p:=isW) (l:=l.drop i) (k:=j) (by rw [← hw];exact hjl)
   rw [List.getElem?_drop] at hy
   have hil:=(List.getElem?_eq_some_iff.1 hy).1
   have hil':((i+j:Nat):Int) < ((l.length:Nat):Int):=Ya
   have i0:(0:Int)≤((i+j:Nat):Int):=Ya
   have i1:IntKind.i64.wrap (((i+j:Nat):Int)+1)=((i+(j+1):Nat):Int):=Yd
   obtain ⟨b',o',cs',q1,q2,q3,q4⟩:=(t'.ext x0w).one hy
   cases q1
   simp +decide only [go_sem,WR,WS,hsz,e0,e1,e2,e7,hgw,hil',i0,Int.toNat_natCast,Nat.mul_one,q3,q4]
   refine Zaa Kok x0w.1 (Zg1 y w') fun r w2 x2 hr=> ?_
   subst hr
   simp +decide only [go_sem,WR,WS,hsz,e0,e1,e2,e7,hwy,i1]
   exact next (j+1) _ _ ⟨by omega,Yb,hxw.trans x2,Yf,Yk,Ys,Yb⟩ Ya
  ·have hjw:j=w.length:=by omega
   subst hjw
   apply Za1 (α:=Unit) (fun _ e w'=>e.size=50∧Ext h w'∧e.get 0= .pointer (some ⟨xb,0,none⟩)∧e.get 1= .int .i64 (i:Int)∧e.get 2= .int .i64 (k:Int)∧e.get 7= .int .i64 ((i+w.length:Nat):Int))
   ·intro cont
    by_cases hil:((i+w.length:Nat):Int) < ((l.length:Nat):Int)
    case neg =>
     simp +decide only [go_sem,WR,hsz,e0,e1,e2,e7,hgw,hil]
     exact WS.2 (cont () _ _ ⟨Yb,hxw,Yf,Yk,Ys,Yi⟩)
    obtain ⟨y,hy⟩:∃ y,l[i+w.length]? =some y:=⟨_,List.getElem?_eq_getElem Ya⟩
    have hwy:isW y=false:=by
     refine ZfC (l:=l.drop i) ?_
     rw [List.getElem?_drop,← hw]
     exact hy
    have i0:(0:Int)≤((i+w.length:Nat):Int):=Ya
    obtain ⟨b',o',cs',q1,q2,q3,q4⟩:=(t'.ext x0w).one hy
    cases q1
    simp +decide only [go_sem,WR,hsz,e0,e1,e2,e7,hgw,hil,i0,Int.toNat_natCast,Nat.mul_one,q3,q4]
    refine Zaa Kok x0w.1 (Zg1 y w') fun r w2 x2 hr=> ?_
    subst hr
    simp +decide only [go_sem,WR,hsz,e0,e1,e2,e7,hwy]
    exact WS.2 (cont () _ _ ⟨Yb,hxw.trans x2,Yf,Yk,Ys,Yi⟩)
   rintro _ e w' ⟨hsz,hxw,e0,e1,e2,e7⟩
   have x0w:=x.trans hxw
   have hgw:w'.get xb=_:=(hxw.2 _ hxb).trans hg
   obtain ⟨a',c1,c2,c3⟩:=(t'.ext x0w).cut hne (lo:=i) (hi:=i+w.length) Ya hwl
   rw [hcut] at c2 c3
   simp +decide only [go_sem,WR,WS,hsz,e0,e1,e2,e7,hgw,c1]
   refine Zaa Kok x0w.1 (Zd5 w w' c2 Ya) fun r w2 x2 hr=> ?_
   subst hr
   have x02:=x0w.trans x2
   have hgw2:w2.get xb=_:=((hxw.trans x2).2 _ hxb).trans hg
   cases hn:Zat w with
   | false =>
     simp +decide only [go_sem,WR,WS,hsz,e0,e1,e2,e7]
     simp only [Zb2,← hw,hn]
     simp
   | true =>
     have hw1:=ZeJ hn
     obtain ⟨a2,d1,d2,d3⟩:=(t'.ext x02).cut hne (lo:=i) (hi:=i+w.length) Ya hwl
     rw [hcut] at d2 d3
     simp +decide only [go_sem,WR,WS,hsz,e0,e1,e2,e7,hgw2,d1,d3,Zb0]
     refine ZaW rfl (ZbP x02 (L'.ext (hxw.trans x2)) ⟨k,w,0⟩ (upto:=i+w.length) Ya Ya) fun r w3 hr=> ?_
     obtain ⟨rfl,hL⟩:=hr
     simp +decide only [go_sem,WR,WS,hsz]
     exact .inr ⟨_,_,_,by simp only [Zb2,← hw,hn,if_true],⟨_,_,_,_,_,_,_,_,_,_,_,rfl⟩,by omega,hwl,hL⟩
theorem ZhR:∀ {s:List Int} {k:Nat},Zbj s=some k→1≤k∧k≤s.length:=by
 intro s
 induction s using Zbj.induct with
 | case1=>intro k h;simp [Zbj] at h
 | case2 s ih =>
   intro k h
   simp only [Zbj,Option.map_eq_some_iff] at h
   obtain ⟨m,h1,rfl⟩:=h
   have:=ih h1
   simp only [List.length_cons]
   omega
 | case3 s h' =>
   intro k h
   rw [Zbj] at h
   ·cases h
    simp
   ·exact h'
 | case4 c s h1 h2 ih =>
   intro k h
   rw [Zbj] at h
   ·simp only [Option.map_eq_some_iff] at h
    obtain ⟨m,h3,rfl⟩:=h
    have:=ih h3
    simp only [List.length_cons]
    omega
   ·exact h1
   ·exact h2
theorem ZjR (l:List Int) (j:Nat):Zbj (l.drop j)=match l[j]? with
  | none=>none
  | some c=>if c=39 then (if l[j+1]? =some 39 then (Zbj (l.drop (j+2))).map (·+2) else some 1) else (Zbj (l.drop (j+1))).map (·+1):=by
 cases hc:l[j]? with
 | none =>
   rw [List.drop_of_length_le (by simpa using hc)]
   rfl
 | some c =>
   have hj:=(List.getElem?_eq_some_iff.1 hc).1
   have e1:l.drop j=c::l.drop (j+1):=by
    rw [List.drop_eq_getElem_cons hj,(List.getElem?_eq_some_iff.1 hc).2]
   rw [e1]
   simp only
   by_cases h39:c=39
   ·subst h39
    rw [if_pos rfl]
    cases hd:l[j+1]? with
    | none =>
      rw [List.drop_of_length_le (by simpa using hd)]
      rfl
    | some d =>
      have hj2:=(List.getElem?_eq_some_iff.1 hd).1
      have e2:l.drop (j+1)=d::l.drop (j+2):=by
       rw [List.drop_eq_getElem_cons hj2,(List.getElem?_eq_some_iff.1 hd).2]
      rw [e2]
      by_cases h39':d=39
      ·subst h39'
       rw [if_pos rfl]
       rfl
      ·rw [if_neg (by simpa using h39'),Zbj]
       intro s hs
       simp only [List.cons.injEq] at hs
       exact h39' hs.1
   ·rw [if_neg h39,Zbj]
    ·intro s hs _
     exact h39 hs
    ·exact h39
end Go.Proofs.YtachkofbmodnnaaGreat.N20
namespace Go.Proofs.YtachkofbmodnnaaGreat.N21
open Go Go.Im Go.Im.Limbs Go.Im.Lexing Go.Proofs Go.RowKit Hd N1 N10 N13 N15 N16 N17 N18 N19 N20
set_option maxRecDepth 100000
theorem Zlw {h0 h:Heap} (x:Ext h0 h) {l:List Int} {tv:Value} (t:Tx h0 tv l) (hm:l.length≤512) {xb at':Nat} {xs:List XT} (L:LX h0.size h xb tv at' xs) (hat:at' < l.length) :
  Does K h0.size 94 #[.pointer (some ⟨xb,0,none⟩)] h fun v h'=>(Zbj (l.drop (at'+1))=none∧v= .bool false) ∨
   ∃ m rest,Zbj (l.drop (at'+1))=some m∧v= .bool true∧Arr5 rest∧at' < at'+1+m∧at'+1+m≤l.length∧LX h0.size h' xb tv (at'+1+m) (xs++[((at',⟨1,[],0⟩),rest)]):=by
 have t':=t
 rcases t with ⟨rfl,_⟩ | ⟨b,o,cs,rfl,hb,hgb,hol,hcs⟩
 ·simp at hat
 have L':=L
 obtain ⟨hl,hxb,hbd,hall,ov,hg,own,hv⟩:=L
 refine Does.intro rfl Ye Tryz.func94 rfl ?_
 have k1:=x.1
 have i1:IntKind.i64.wrap ((at':Int)+1)=((at'+1:Nat):Int):=Yd
 simp +decide only [go_sem,WR,WS,hg,i1]
 refine Zah (α:=Nat × List Int × Value) (fun k e w=>at'+1≤k.1∧k.1≤l.length∧Zbj (l.drop (at'+1))=(Zbj (l.drop k.1)).map (·+(k.1 - (at'+1)))∧e.size=83∧Ext h w∧e.get 0= .pointer (some ⟨xb,0,none⟩)∧e.get 3=k.2.2∧e.get 4= .int .i64 (k.1:Int)∧Own h.size w 1 k.2.2 k.2.1.length (rv k.2.1)∧k.2.1.length≤k.1) (fun k=>l.length - k.1) (at'+1,[],.slice none 0 0) ?_ ?_
 ·refine ⟨Nat.le_refl _,hat,?_,Yc,Ext.refl h,Yc,Yc,Yc,Own.nil _ _ _,by simp⟩
  simp
 ·rintro ⟨p,ss,sv⟩ e w ⟨hp1,hp2,htx,hsz,hxw,e0,e3,e4,owns,hss⟩ next
  simp only at hp1 hp2 htx e3 e4 owns hss
  have x0w:=x.trans hxw
  have hgw:w.get xb=_:=(hxw.2 _ hxb).trans hg
  rw [ZjR l p] at htx
  by_cases hpl:(p:Int) < ((l.length:Nat):Int)
  case neg =>
   rw [List.getElem?_eq_none Ya] at htx
   simp +decide only [go_sem,WR,WS,hsz,e0,e3,e4,hgw,hpl]
   simp [htx]
  obtain ⟨y,hy⟩:∃ y,l[p]? =some y:=⟨_,List.getElem?_eq_getElem Ya⟩
  rw [hy] at htx
  simp only at htx
  have i0:(0:Int)≤(p:Int):=Ya
  have i2:IntKind.i64.wrap ((p:Int)+1)=((p+1:Nat):Int):=Yd
  have i3:IntKind.i64.wrap ((p:Int)+2)=((p+2:Nat):Int):=Yd
  obtain ⟨b',o',cs',q1,q2,q3,q4⟩:=(t'.ext x0w).one hy
  cases q1
  by_cases h39:y=39
  case neg =>
   rw [if_neg h39] at htx
   obtain ⟨w1,e1',x1,hs1,g1⟩:=lay1 w (.cells [.int .i32 y] 1)
   have hgw1:w1.get xb=_:=(x1.2 _ (Nat.lt_of_lt_of_le hxb hxw.1)).trans hgw
   obtain ⟨w2,e2',own2,hs2,x2⟩:=Zbu (bytes:=4) (k:=1) (new:=[.int .i32 y]) k1 (hxw.trans x1) (owns.ext x1) Ya Ya rfl Ya Ya
   simp +decide only [go_sem,WR,WS,hsz,e0,e3,e4,hgw,hpl,i0,Int.toNat_natCast,Nat.mul_one,q3,q4,h39,e1',g1,e2',i2]
   refine next (p+1,ss++[y],_) _ _ ⟨by simp only;omega,by simp only;omega,?_,Yb,x2,Yf,by simp +decide only [go_sem,hsz];rfl,Yb,by rw [ZfN,List.length_append];exact own2,by simp;omega⟩ Yj
   rw [htx]
   simp only [Option.map_map]
   congr 1
   funext z
   simp
   omega
  subst h39
  rw [if_pos rfl] at htx
  by_cases hp2':l[p+1]? =some 39
  ·rw [if_pos hp2'] at htx
   have hp3:=(List.getElem?_eq_some_iff.1 hp2').1
   have hpl2:((p+1:Nat):Int) < ((l.length:Nat):Int):=Ya
   obtain ⟨b2,o2,cs2,p1,p2,p3,p4⟩:=(t'.ext x0w).one hp2'
   cases p1
   rw [q3] at p3
   cases p3
   have i4:(0:Int)≤((p+1:Nat):Int):=Ya
   obtain ⟨w1,e1',x1,hs1,g1⟩:=lay1 w (.cells [.int .i32 39] 1)
   obtain ⟨w2,e2',own2,hs2,x2⟩:=Zbu (bytes:=4) (k:=1) (new:=[.int .i32 39]) k1 (hxw.trans x1) (owns.ext x1) Ya Ya rfl Ya Ya
   simp +decide only [go_sem,WR,WS,hsz,e0,e3,e4,hgw,hpl,i0,Int.toNat_natCast,Nat.mul_one,q3,q4,p4,i4,hpl2,e1',g1,e2',i2,i3]
   refine next (p+2,ss++[39],_) _ _ ⟨by simp only;omega,by simp only;omega,?_,Yb,x2,Yf,by simp +decide only [go_sem,hsz];rfl,Yb,by rw [ZfN,List.length_append];exact own2,by simp;omega⟩ Yj
   rw [htx]
   simp only [Option.map_map]
   congr 1
   funext z
   simp
   omega
  rw [if_neg hp2'] at htx
  have htx':Zbj (l.drop (at'+1))=some (p - at'):=by
   rw [htx]
   simp
   omega
  have hto:at'+1+(p - at')=p+1:=Ya
  apply Za1 (α:=Unit) (fun _ e w'=>e.size=83∧w'=w∧e.get 0= .pointer (some ⟨xb,0,none⟩)∧e.get 3=sv∧e.get 4= .int .i64 (p:Int))
  ·intro cont
   obtain ⟨a,c,rfl⟩:=owns.shape
   by_cases hpl2:((p+1:Nat):Int) < ((l.length:Nat):Int)
   ·obtain ⟨y,hy⟩:∃ y,l[p+1]? =some y:=⟨_,List.getElem?_eq_getElem Ya⟩
    obtain ⟨b2,o2,cs2,p1,p2,p3,p4⟩:=(t'.ext x0w).one hy
    cases p1
    rw [q3] at p3
    cases p3
    have hy39:¬ y=39:=fun hh=>hp2' (by rw [hy,hh])
    have i4:(0:Int)≤((p+1:Nat):Int):=Ya
    simp +decide only [go_sem,WS]
    (rw [WR];simp +decide only [go_sem,WS,hsz,e0,e3,e4,hgw,hpl])
    (rw [WR];simp +decide only [go_sem,WS,hsz,e0,e3,e4,hgw,i0,hpl,Int.toNat_natCast,Nat.mul_one,q3,q4])
    (rw [WR];simp +decide only [go_sem,WS,hsz,e0,e3,e4,hgw,hpl,i0,Int.toNat_natCast,Nat.mul_one,q3,q4,p4,i4,hpl2,i2,hy39])
    exact cont () _ _ ⟨Yb,rfl,Yf,Yq,Yg⟩
   ·simp +decide only [go_sem,WS]
    (rw [WR];simp +decide only [go_sem,WS,hsz,e0,e3,e4,hgw,hpl])
    (rw [WR];simp +decide only [go_sem,WS,hsz,e0,e3,e4,hgw,i0,hpl,Int.toNat_natCast,Nat.mul_one,q3,q4])
    (rw [WR];simp +decide only [go_sem,WS,hsz,e0,e3,e4,hgw,hpl,i0,Int.toNat_natCast,Nat.mul_one,q3,q4,hpl2,i2])
    exact cont () _ _ ⟨Yb,rfl,Yf,Yq,Yg⟩
  rintro _ e w' ⟨hsz,rfl,e0,e3,e4⟩
  rw [htx']
  by_cases h1:ss.length=1
  ·obtain ⟨y,rfl⟩:=List.length_eq_one_iff.1 h1
   rcases owns with ⟨_,h2,_⟩ | ⟨sb,rfl,h2,h3,h4,h5⟩
   ·simp at h2
   have h4':w'.get sb= .cells [.int .i32 y] 1:=h4
   simp +decide only [go_sem,WR,WS,hsz,e0,e3,e4,h4']
   refine Zaa Kok x0w.1 (ZoV y w') fun r w2 x2 hr=> ?_
   obtain ⟨_,rfl,a,n,c,bb,a2,n2,c2,a3,n3,c3,m,rfl⟩:=hr
   simp +decide only [go_sem,WR,WS,hsz,e0,e3,e4,i2]
   refine ZaW rfl (ZbP (x0w.trans x2) (L'.ext (hxw.trans x2)) ⟨1,[],0⟩ (upto:=p+1) Ya Ya) fun r w3 hr=> ?_
   obtain ⟨rfl,hL⟩:=hr
   simp +decide only [go_sem,WR,WS,hsz]
   exact .inr ⟨_,_,rfl,⟨_,_,_,_,_,_,_,_,_,_,_,rfl⟩,by omega,by omega,by rw [hto];exact hL⟩
  ·obtain ⟨a,c,rfl⟩:=owns.shape
   have h1':¬ ((ss.length:Nat):Int)=1:=Ya
   simp +decide only [go_sem,WR,WS,hsz,e0,e3,e4,h1']
   refine Zaa Kok x0w.1 (ZnT w' owns.sl Ya) fun r w2 x2 hr=> ?_
   obtain ⟨_,rfl,a,n,c,bb,a2,n2,c2,a3,n3,c3,m,rfl⟩:=hr
   simp +decide only [go_sem,WR,WS,hsz,e0,e3,e4,i2]
   refine ZaW rfl (ZbP (x0w.trans x2) (L'.ext (hxw.trans x2)) ⟨1,[],0⟩ (upto:=p+1) Ya Ya) fun r w3 hr=> ?_
   obtain ⟨rfl,hL⟩:=hr
   simp +decide only [go_sem,WR,WS,hsz]
   exact .inr ⟨_,_,rfl,⟨_,_,_,_,_,_,_,_,_,_,_,rfl⟩,by omega,by omega,by rw [hto];exact hL⟩
end Go.Proofs.YtachkofbmodnnaaGreat.N21
namespace Go.Proofs.YtachkofbmodnnaaGreat.N22
open Go Go.Im Go.Im.Limbs Go.Im.Lexing Go.Proofs Go.RowKit Hd N1 N10 N13 N15 N16 N17 N18 N19 N20 N21
set_option maxRecDepth 100000
def RatS (l:List Value):Prop:=∃ a n c b a2 n2 c2,l=[.slice a n c,.bool b,.slice a2 n2 c2]
theorem Zmh (h:Heap) {l:List Value} (hl:RatS l):Runs K 118 #[.agg l.toArray] h fun r _=>∃ l,r= .agg l.toArray∧Arr5 l:=by
 obtain ⟨a,n,c,s,a',n',c',rfl⟩:=hl
 refine Runs.of Kok (Does.intro rfl Ye Tryz.func118 rfl ?_)
 simp +decide only [go_sem,WR,WS]
 exact ⟨_,rfl,_,_,_,_,_,_,_,_,_,_,_,rfl⟩
def addN (at' n upto p:Nat) (r:Nat × Nat):Nat × Nat:=if r.1=0 then (n,upto - at') else (n+r.1,p - at'+r.2)
theorem Znv {l:List Int} {p j:Nat} (h:j < blanks (l.drop p)):l[p+j]? =some 32:=by
 obtain ⟨c,h1,h2⟩:=ZhP h
 rw [List.getElem?_drop] at h1
 rw [h1]
 simpa using h2
theorem ZeX {l:List Int} {p:Nat} {c:Int} (h:l[p+blanks (l.drop p)]? =some c):¬ c=32:=by
 rw [← List.getElem?_drop] at h
 simpa using ZfC h
theorem Zdk {l:List Int} {p:Nat} (h:p≤l.length):p+blanks (l.drop p)≤l.length:=by
 have:=Zgh (p:=fun c=>decide (c=32)) (l.drop p)
 rw [List.length_drop] at this
 unfold blanks
 omega
theorem Zcn (f:Nat) (s:List Int):Zbv (f+1) s=if begins s then match ZdY s with
   | none=>none
   | some k=>match Zbv f (s.drop (k+blanks (s.drop k))) with
     | none=>none
     | some (0,_)=>some (1,k)
     | some (n+1,m)=>some (n+2,k+blanks (s.drop k)+m)
  else some (0,0):=rfl
theorem Zh9 {f:Nat} {s:List Int} {m:Nat} (hb:begins s=true):Zbv (f+1) s≠some (0,m):=by
 intro hq
 rw [Zcn,hb,if_pos rfl] at hq
 split at hq
 ·cases hq
 ·split at hq<;>cases hq
theorem Zia {h0 h:Heap} (x:Ext h0 h) {l:List Int} {tv:Value} (t:Tx h0 tv l) (hm:l.length≤512) {xb at':Nat} {xs:List XT} (L:LX h0.size h xb tv at' xs) (hat:at' < l.length) (hbg:begins (l.drop at')=true) :
  Does K h0.size 92 #[.pointer (some ⟨xb,0,none⟩)] h fun v h'=>(Zbv 600 (l.drop at')=none∧v= .bool false) ∨
   ∃ n m rest,Zbv 600 (l.drop at')=some (n,m)∧v= .bool true∧Arr5 rest∧at' < at'+m∧at'+m≤l.length∧LX h0.size h' xb tv (at'+m) (xs++[((at',⟨1,[],0⟩),rest)]):=by
 have t':=t
 rcases t with ⟨rfl,_⟩ | ⟨b,o,cs,rfl,hb,hgb,hol,hcs⟩
 ·simp at hat
 have hne:l≠[]:=by
  rintro rfl
  simp at hat
 have L':=L
 obtain ⟨hl,hxb,hbd,hall,ov,hg,own,hv⟩:=L
 refine Does.intro rfl Ye Tryz.func92 rfl ?_
 have k1:=x.1
 simp +decide only [go_sem,WR,WS,hg]
 refine Zah (α:=Nat × Nat × Nat × List (List Value) × Value) (fun k e w=>at'≤k.2.1∧k.2.1≤k.1∧k.1≤l.length∧Zbv 600 (l.drop at')=(Zbv k.2.2.1 (l.drop k.1)).map (addN at' k.2.2.2.1.length k.2.1 k.1)∧513≤k.2.2.1+k.1∧e.size=86∧Ext h w∧e.get 0= .pointer (some ⟨xb,0,none⟩)∧e.get 3=k.2.2.2.2∧e.get 4= .int .i64 (k.1:Int)∧e.get 5= .int .i64 (k.2.1:Int) ∧
  Own h.size w 3 k.2.2.2.2 k.2.2.2.1.length k.2.2.2.1.flatten∧k.2.2.2.1.length≤k.1∧(∀ q ∈ k.2.2.2.1,RatS q)∧(k.2.2.2.1.length=0→k.1=at')∧(0 < k.2.2.2.1.length→at' < k.2.1)) (fun k=>l.length - k.1) (at',at',600,[],.slice none 0 0) ?_ ?_
 ·refine ⟨Nat.le_refl _,Nat.le_refl _,by omega,?_,by simp only;omega,Yc,Ext.refl h,Yc,Yc,Yc,Yc,Own.nil _ _ _,by simp,by simp,by simp,by simp⟩
  simp only [List.length_nil]
  cases hq:Zbv 600 (l.drop at') with
  | none=>rfl
  | some r =>
    obtain ⟨n,m⟩:=r
    simp only [Option.map_some,addN,Nat.sub_self,Nat.zero_add,Option.some.injEq]
    split
    ·rename_i h0'
     have h0':n=0:=h0'
     subst h0'
     exact absurd hq (Zh9 (f:=599) hbg)
    ·rfl
 ·rintro ⟨p,upto,f,qs,sv⟩ e w ⟨hp1,hp2,hp3,hnm,hf,hsz,hxw,e0,e3,e4,e5,owns,hqs,hrs,hz,hpos⟩ next
  simp only at hp1 hp2 hp3 hnm hf e3 e4 e5 owns hqs hrs hz hpos
  have x0w:=x.trans hxw
  have hgw:w.get xb=_:=(hxw.2 _ hxb).trans hg
  obtain ⟨g,rfl⟩:∃ g,f=g+1:=⟨f - 1,by omega⟩
  cases hbp:begins (l.drop p) with
  | false =>
    have hn:Zbv (g+1) (l.drop p)=some (0,0):=by rw [Zcn,hbp];rfl
    rw [hn] at hnm
    simp only [Option.map_some,addN,if_true] at hnm
    have hq0:0 < qs.length:=by
     refine Nat.pos_of_ne_zero fun hh=> ?_
     have:=hz hh
     subst this
     rw [hbg] at hbp
     cases hbp
    have hto:=hpos hq0
    have htl:at'+(upto - at')=upto:=Ya
    rw [hnm]
    simp +decide only [go_sem,WR,WS,hsz,e0,e3,e4,e5,hgw]
    refine Zaa Kok x0w.1 (Zdl l p w (t'.ext x0w) Ya hp3) fun r w1 x1 hr=> ?_
    rw [hbp] at hr
    subst hr
    have x01:=x0w.trans x1
    have owns1:=owns.ext x1
    obtain ⟨a,c,rfl⟩:=owns.shape
    by_cases h1:qs.length=1
    ·obtain ⟨q,rfl⟩:=List.length_eq_one_iff.1 h1
     rcases owns1 with ⟨_,h2,_⟩ | ⟨sb,h2,h3,h4,h5,h6⟩
     ·simp at h2
     cases h2
     have hq:=hrs q Yp
     have hq':=hq
     obtain ⟨aa,na,ca,ba,ab,nb,cb,rfl⟩:=hq'
     have h5':w1.get sb= .cells [.slice aa na ca,.bool ba,.slice ab nb cb] 3:=h5
     simp +decide only [go_sem,WR,WS,hsz,e0,e3,e4,e5,h5']
     refine Zaa Kok x01.1 (Zmh w1 hq) fun r w2 x2 hr=> ?_
     obtain ⟨_,rfl,a,n,c,bb,a2,n2,c2,a3,n3,c3,m,rfl⟩:=hr
     simp +decide only [go_sem,WR,WS,hsz,e0,e3,e4,e5]
     refine ZaW rfl (ZbP (x01.trans x2) (L'.ext (hxw.trans (x1.trans x2))) ⟨1,[],0⟩ (upto:=upto) Ya Ya) fun r w3 hr=> ?_
     obtain ⟨rfl,hL⟩:=hr
     simp +decide only [go_sem,WR,WS,hsz]
     exact .inr ⟨_,_,_,rfl,⟨_,_,_,_,_,_,_,_,_,_,_,rfl⟩,by omega,by omega,by rw [htl];exact hL⟩
    ·have h1':¬ ((qs.length:Nat):Int)=1:=by omega
     obtain ⟨w2,e2',x2,hs2,g2⟩:=lay1 w1 (.cells [.int .i64 ((qs.length:Nat):Int)] 1)
     simp +decide only [go_sem,WR,WS,hsz,e0,e3,e4,e5,h1',e2']
     refine Zaa Kok (x01.trans x2).1 (Zof (v:= .bool true) w2 g2 Ya hq0 Ya (owns1.ext x2).sl) fun r w3 x3 hr=> ?_
     obtain ⟨_,m0,rfl,a,n,c,bb,a2,n2,c2,a3,n3,c3,m,rfl⟩:=hr
     have x03:=x01.trans (x2.trans x3)
     obtain ⟨w4,e4',x4,hs4,g4⟩:=lay1 w3 (.cells [.slice none 0 0,.bool false,.slice none 0 0,.slice none 0 0,.bool false] 5)
     obtain ⟨w5,e5',x5,hs5,g5,k5⟩:=put1 x4 (Nat.le_refl _) (.cells [.slice a n c,.bool bb,.slice a2 n2 c2,.slice a3 n3 c3,.bool m] 5)
     simp +decide only [go_sem,WR,WS,hsz,e0,e3,e4,e5,e4',g4,x03.1,e5',g5]
     refine ZaW rfl (ZbP (x03.trans x5) (L'.ext (hxw.trans (x1.trans (x2.trans (x3.trans x5))))) ⟨1,[],0⟩ (upto:=upto) Ya Ya) fun r w6 hr=> ?_
     obtain ⟨rfl,hL⟩:=hr
     simp +decide only [go_sem,WR,WS,hsz]
     exact .inr ⟨_,_,_,rfl,⟨_,_,_,_,_,_,_,_,_,_,_,rfl⟩,by omega,by omega,by rw [htl];exact hL⟩
  | true =>
    have hunf:Zbv (g+1) (l.drop p)=match ZdY (l.drop p) with
     | none=>none
     | some k=>match Zbv g (l.drop (p+(k+blanks (l.drop (p+k))))) with
       | none=>none
       | some (0,_)=>some (1,k)
       | some (n+1,m)=>some (n+2,k+blanks (l.drop (p+k))+m):=by
     rw [Zcn,hbp,if_pos rfl]
     simp only [List.drop_drop]
    simp +decide only [go_sem,WR,WS,hsz,e0,e3,e4,e5,hgw]
    refine Zaa Kok x0w.1 (Zdl l p w (t'.ext x0w) Ya hp3) fun r w1 x1 hr=> ?_
    rw [hbp] at hr
    subst hr
    have x01:=x0w.trans x1
    have hgw1:w1.get xb=_:=((hxw.trans x1).2 _ hxb).trans hg
    simp +decide only [go_sem,WR,WS,hsz,e0,e3,e4,e5,hgw1]
    refine Zaa Kok x01.1 (Zdb l p w1 (t'.ext x01) hne hm hp3 hbp) fun r w2 x2 hr=> ?_
    have x02:=x01.trans x2
    have hgw2:w2.get xb=_:=((hxw.trans (x1.trans x2)).2 _ hxb).trans hg
    rcases hr with ⟨hrd,q,y,m,s,d,rfl,hrat⟩ | ⟨k,q,m,s,d,hrd,hk1,hk2,rfl,hrat⟩
    ·obtain ⟨pp,qq,rfl,hp',hq'⟩:=hrat
     obtain ⟨aa,na,ca,rfl⟩:=Zaf hp'
     obtain ⟨ab,nb,cb,rfl⟩:=Zaf hq'
     obtain ⟨w4,e4',x4,hs4,g4⟩:=lay1 w2 (.cells [.slice none 0 0,.bool false,.slice none 0 0] 3)
     obtain ⟨w5,e5',x5,hs5,g5,k5⟩:=put1 x4 (Nat.le_refl _) (.cells [.slice aa na ca,.bool s,.slice ab nb cb] 3)
     rw [hunf,hrd] at hnm
     simp only [Option.map_none] at hnm
     simp +decide only [go_sem,WR,WS,hsz,e0,e3,e4,e5,e4',g4,x02.1,e5']
     simp [hnm]
    obtain ⟨pp,qq,rfl,hp',hq'⟩:=hrat
    obtain ⟨aa,na,ca,rfl⟩:=Zaf hp'
    obtain ⟨ab,nb,cb,rfl⟩:=Zaf hq'
    obtain ⟨w4,e4',x4,hs4,g4⟩:=lay1 w2 (.cells [.slice none 0 0,.bool false,.slice none 0 0] 3)
    obtain ⟨w5,e5',x5,hs5,g5,k5⟩:=put1 x4 (Nat.le_refl _) (.cells [.slice aa na ca,.bool s,.slice ab nb cb] 3)
    obtain ⟨w6,e6',x6,hs6,g6⟩:=lay1 w5 (.cells [.slice aa na ca,.bool s,.slice ab nb cb] 3)
    have xw6:Ext h w6:=hxw.trans (x1.trans (x2.trans (x5.trans x6)))
    obtain ⟨w7,e7',own7,hs7,x7⟩:=Zbu (bytes:=56) (k:=1) (new:=[.slice aa na ca,.bool s,.slice ab nb cb]) k1 xw6 (owns.ext (x1.trans (x2.trans (x5.trans x6)))) Ya Ya rfl Ya Ya
    have hgw7:w7.get xb=_:=(x7.2 _ hxb).trans hg
    obtain ⟨B,hB⟩:∃ B,B=blanks (l.drop (p+k)):=⟨_,rfl⟩
    have hBl:p+k+B≤l.length:=by rw [hB];exact Zdk hk1
    rw [hunf,hrd] at hnm
    simp only [← hB] at hnm
    simp +decide only [go_sem,WR,WS,hsz,e0,e3,e4,e5,e4',g4,x02.1,e5',g5,e6',g6,e7']
    refine Zah (α:=Nat) (fun j e w'=>j≤B∧e.size=86∧w'=w7∧e.get 0= .pointer (some ⟨xb,0,none⟩)∧e.get 3= .slice (some ⟨w6.size,0,none⟩) (qs.length+1) big∧e.get 4= .int .i64 ((p+k+j:Nat):Int)∧e.get 5= .int .i64 ((p+k:Nat):Int)) (fun j=>B - j) 0 ?_ ?_
    ·exact ⟨Nat.zero_le _,Yb,rfl,Yf,Yb,Yb,Yb⟩
    ·rintro j e w' ⟨hj,hsz,rfl,e0,e3,e4,e5⟩ next2
     have x07:=x.trans x7
     by_cases hjB:j < B
     ·have hy:=Znv (l:=l) (p:=p+k) (j:=j) (by rw [← hB];exact hjB)
      have hil:((p+k+j:Nat):Int) < ((l.length:Nat):Int):=Ya
      have i0:(0:Int)≤((p+k+j:Nat):Int):=Ya
      have i1:IntKind.i64.wrap (((p+k+j:Nat):Int)+1)=((p+k+(j+1):Nat):Int):=Yd
      obtain ⟨b',o',cs',q1,q2,q3,q4⟩:=(t'.ext x07).one hy
      cases q1
      simp +decide only [go_sem,WR,WS,hsz,e0,e3,e4,e5,hgw7,hil,i0,Int.toNat_natCast,Nat.mul_one,q3,q4,i1]
      exact next2 (j+1) _ _ ⟨by omega,Yb,rfl,Yf,Yq,Yb,Yo⟩ Ya
     ·have hjB':j=B:=by omega
      subst hjB'
      have fin:∀ e1:Env,e1.size=86→e1.get 0= .pointer (some ⟨xb,0,none⟩)→e1.get 3= .slice (some ⟨w6.size,0,none⟩) (qs.length+1) big→e1.get 4= .int .i64 ((p+k+j:Nat):Int)→e1.get 5= .int .i64 ((p+k:Nat):Int)→_ :=
       fun e1 f1 f2 f3 f4 f5=>next (p+k+j,p+k,g,qs++[[.slice aa na ca,.bool s,.slice ab nb cb]],.slice (some ⟨w6.size,0,none⟩) (qs.length+1) big) e1 w' ⟨by simp only;omega,by simp only;omega,by simp only;omega,by
        rw [hnm]
        simp only
        rw [show p+(k+j)=p+k+j by omega]
        cases Zbv g (l.drop (p+k+j)) with
        | none=>rfl
        | some r =>
          obtain ⟨n,m⟩:=r
          cases n with
          | zero=>simp [addN];omega
          | succ n=>simp [addN];omega,by simp only;omega,f1,x7,f2,f3,f4,f5,by
        rw [List.flatten_append,List.length_append]
        exact own7,by simp;omega,by
        intro q hq
        rcases List.mem_append.1 hq with hq | hq
        ·exact hrs q hq
        ·rw [List.mem_singleton] at hq
         exact ⟨_,_,_,_,_,_,_,hq⟩,by simp,fun _=>by simp only;omega⟩ Yj
      by_cases hil:((p+k+j:Nat):Int) < ((l.length:Nat):Int)
      case neg =>
       simp +decide only [go_sem,WR,WS,hsz,e0,e3,e4,e5,hgw7,hil]
       exact fin _ Yb Yf Yq Yg Yo
      obtain ⟨y,hy⟩:∃ y,l[p+k+j]? =some y:=⟨_,List.getElem?_eq_getElem Ya⟩
      have hy32:¬ y=32:=ZeX (by rw [← hB];exact hy)
      have i0:(0:Int)≤((p+k+j:Nat):Int):=Ya
      obtain ⟨b',o',cs',q1,q2,q3,q4⟩:=(t'.ext x07).one hy
      cases q1
      simp +decide only [go_sem,WR,WS,hsz,e0,e3,e4,e5,hgw7,hil,i0,Int.toNat_natCast,Nat.mul_one,q3,q4,hy32]
      exact fin _ Yb Yf Yq Yg Yo
end Go.Proofs.YtachkofbmodnnaaGreat.N22
