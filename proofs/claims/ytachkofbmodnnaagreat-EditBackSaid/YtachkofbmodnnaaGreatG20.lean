/- Proved here: parts of the way to BEditBack (BL2 BE1 BE2 BD1 BD2); no condition beyond those that each theorem names. -/
import Derived.Test.YtachkofbmodnnaaGreatG19
import Derived.Test.YtachkofbmodnnaaGreatG4
import Derived.Test.YtachkofbmodnnaaGreatG7
set_option linter.unusedSimpArgs false
set_option linter.unusedVariables false
namespace Go.Im.Lexing
def ZaO (l:List Int):ByteArray × List Int:=match lex l with
 | some (t::u::_)=>if t.2.kind=2∧isM u.2 58=true then (runesBytes t.2.word,l.drop (u.1+1)) else (ByteArray.empty,l)
 | _=>(ByteArray.empty,l)
end Go.Im.Lexing
namespace Go.Proofs.YtachkofbmodnnaaGreat.L1
open Go Go.Im Go.Im.Limbs Go.Im.Lexing Go.Proofs Go.RowKit Hd N18 N19 N23 N26 R8 R9 T0
set_option maxRecDepth 100000
theorem ZmE (l:List Int) {v:Value} (h:Heap) (t:Tx h v l) (hm:l.length≤1000000):Runs K 53 #[v] h fun r w=>∃ u,r= .tuple #[.string (ZaO l).1,u]∧Tx w u (ZaO l).2:=by
 obtain ⟨a,c,rfl⟩:=t.open
 refine Runs.of Kok (Does.intro rfl Ye Tryz.func53 rfl ?_)
 simp +decide only [go_sem,WR,WS]
 refine Zaa Kok (Nat.le_refl _) (Zhm h t) fun r w1 x1 hr=> ?_
 have t1:=t.ext x1
 rcases hr with ⟨hlex,rfl⟩ | ⟨xs,a1,c1,hlex,hA,hxl,rfl,s1⟩
 ·simp +decide only [go_sem,WR,WS]
  unfold ZaO
  rw [hlex]
  exact ⟨_,rfl,t1⟩
 by_cases h2:((xs.length:Nat):Int) < 2
 ·simp +decide only [go_sem,WR,WS,h2]
  unfold ZaO
  rw [hlex]
  match xs,h2 with
  | [],_=>exact ⟨_,rfl,t1⟩
  | [x],_=>exact ⟨_,rfl,t1⟩
  | _::_::_,h2=>simp at h2;omega
 obtain ⟨X,Y,rest,rfl⟩:∃ X Y rest,xs=X::Y::rest:=by
  match xs,h2 with
  | [],h2=>simp at h2
  | [x],h2=>simp at h2
  | X::Y::rest,_=>exact ⟨_,_,_,rfl⟩
 have hris:=ZgN hlex
 obtain ⟨_,⟨ch,hch,_⟩,_⟩:=hris.at (i:=1) (t:=Y.1) rfl
 have hYl:=(List.getElem?_eq_some_iff.1 hch).1
 have hne:l≠[]:=by
  rintro rfl
  simp at hYl
 obtain ⟨b1,o1,cs1,p1,p2,p3,p4,_,p6,_,_,p5⟩:=Sl.tok (i:=0) s1 hA rfl rfl
 obtain ⟨b2,o2,cs2,r1,r2,r3,_,r4,_,_,r6,r5⟩:=Sl.tok (i:=1) s1 hA rfl rfl
 subst p1
 cases r1
 rw [p3] at r3
 cases r3
 have p4':cs1[o1]? =some (.int .i64 (X.1.2.kind:Int)):=by simpa using p4
 have p6':cs1[o1+2]? =some (.string (runesBytes X.1.2.word)):=by simpa using p6
 have r4':cs1[o1+9+1]? =some (.int .i64 (Y.1.1:Int)):=by simpa using r4
 have r5':o1+9+9≤cs1.length:=by simpa using r5
 have r6':(cs1.drop (o1+9)).take 9=tc4 Y.1++Y.2:=by simpa using r6
 have n0:(0:Int) < (((X::Y::rest).length:Nat):Int):=YN
 have n1:(1:Int) < (((X::Y::rest).length:Nat):Int):=YN
 have hYA:=hA Y Yp
 have hspec:ZaO l=if X.1.2.kind=2∧isM Y.1.2 58=true then (runesBytes X.1.2.word,l.drop (Y.1.1+1)) else (ByteArray.empty,l):=by
  unfold ZaO
  rw [hlex]
  rfl
 rw [hspec]
 generalize hL:(X::Y::rest).length=L at *
 by_cases hk:X.1.2.kind=2
 case neg =>
  have hk':¬ ((X.1.2.kind:Nat):Int)=2:=Ya
  rw [if_neg (fun hh=>hk hh.1)]
  simp +decide only [go_sem,WR,WS,h2,n0,p3,p4',hk',Nat.add_zero,Nat.zero_mul]
  exact ⟨_,rfl,t1⟩
 have hk':((X.1.2.kind:Nat):Int)=2:=Ya
 simp +decide only [go_sem,WR,WS,h2,n0,n1,p3,p4',hk',Nat.add_zero,Nat.zero_mul,Nat.one_mul,r5',r6']
 refine Zaa Kok x1.1 (ZmI Y.1 hYA 58 w1) fun r w2 x2 hr=> ?_
 subst hr
 have t2:=t1.ext x2
 have p3':(w2.get b1).read= .cells cs1 9:=by rw [x2.2 _ p2];exact p3
 cases hm58:isM Y.1.2 58 with
 | false =>
   rw [if_neg Yp]
   simp +decide only [go_sem,WR,WS]
   exact ⟨_,rfl,t2⟩
 | true =>
 rw [if_pos ⟨hk,rfl⟩]
 have i1:IntKind.i64.wrap (((Y.1.1:Nat):Int)+1)=((Y.1.1+1:Nat):Int):=Yd
 obtain ⟨a',c1',c2'⟩:=t2.rest hne (lo:=Y.1.1+1) Ya
 simp +decide only [go_sem,WR,WS,n0,n1,p3',p6',r4',Nat.add_zero,Nat.zero_mul,Nat.one_mul,i1,c1']
 exact ⟨_,rfl,c2'⟩
theorem ZkV (ys:List XT) (h:Heap) {a:Option Addr} {c:Nat} (s:Sl h 8 a ys.length c (xcs ys)) (hA:∀ x ∈ ys,Arr4 x.2) (hl:ys.length≤1000) (i:Nat):Runs K 65 #[.slice a ys.length c,.int .i64 (i:Int)] h fun r w=>r= .bool (match ys[i]? with
  | some y=>decide (y.1.2.kind=2)
  | none=>false)∧w=h:=by
 refine Runs.of Kok (Does.intro rfl Ye Tryz.func65 rfl ?_)
 by_cases hil:(i:Int) < ((ys.length:Nat):Int)
 ·obtain ⟨Y,hY⟩:∃ Y,ys[i]? =some Y:=⟨_,List.getElem?_eq_getElem Ya⟩
  obtain ⟨b1,o1,cs1,rfl,p2,p3,p4,_,_,_,_,p5⟩:=Sl.tok8 s hA rfl hY
  have j0:(0:Int)≤(i:Int):=Ya
  simp +decide only [go_sem,WR,WS,hil,j0,Int.toNat_natCast,p3,p4,Nat.add_zero]
  simp only [hY,and_true]
  rw [show decide (((Y.1.2.kind:Nat):Int)=2)=decide (Y.1.2.kind=2) from decide_eq_decide.2 Ya]
 ·have:ys[i]? =none:=List.getElem?_eq_none Ya
  simp +decide only [go_sem,WR,WS,hil]
  simp [this]
theorem ZkM (l:List Int) {v:Value} (h:Heap) (t:Tx h v l) (hm:l.length≤512):Runs K 69 #[v] h fun r w=>∃ u,r= .tuple #[.string (ZaO l).1,u]∧Tx w u (ZaO l).2:=by
 obtain ⟨a,c,rfl⟩:=t.open
 refine Runs.of Kok (Does.intro rfl Ye Tryz.func69 rfl ?_)
 simp +decide only [go_sem,WR,WS]
 refine Zaa Kok (Nat.le_refl _) (Zg8 h t) fun r w1 x1 hr=> ?_
 have t1:=t.ext x1
 rcases hr with ⟨hlex,rfl⟩ | ⟨xs,a1,c1,hlex,hA,hxl,rfl,s1⟩
 ·simp +decide only [go_sem,WR,WS]
  unfold ZaO
  rw [hlex]
  exact ⟨_,rfl,t1⟩
 simp +decide only [go_sem,WR,WS]
 refine Zaa Kok x1.1 (ZkV xs w1 s1 hA Ya 0) fun r w2 x2 hr=> ?_
 obtain ⟨rfl,rfl⟩:=hr
 match xs,hlex,hA,s1 with
 | [],hlex,hA,s1 =>
   simp +decide only [go_sem,WR,WS]
   unfold ZaO
   rw [hlex]
   exact ⟨_,rfl,t1⟩
 | [X],hlex,hA,s1 =>
   have hsp:ZaO l=(ByteArray.empty,l):=by
    unfold ZaO
    rw [hlex]
    rfl
   rw [hsp]
   by_cases hk:X.1.2.kind=2
   ·simp +decide only [go_sem,WR,WS,hk]
    exact ⟨_,rfl,t1⟩
   ·simp +decide only [go_sem,WR,WS,hk]
    exact ⟨_,rfl,t1⟩
 | X::Y::rest,hlex,hA,s1 =>
 have hspec:ZaO l=if X.1.2.kind=2∧isM Y.1.2 58=true then (runesBytes X.1.2.word,l.drop (Y.1.1+1)) else (ByteArray.empty,l):=by
  unfold ZaO
  rw [hlex]
  rfl
 rw [hspec]
 have hris:=ZgN hlex
 obtain ⟨_,⟨ch,hch,_⟩,_⟩:=hris.at (i:=1) (t:=Y.1) rfl
 have hYl:=(List.getElem?_eq_some_iff.1 hch).1
 have hne:l≠[]:=by
  rintro rfl
  simp at hYl
 obtain ⟨b1,o1,cs1,p1,p2,p3,_,_,p6,_,_,p5⟩:=Sl.tok8 (i:=0) s1 hA rfl rfl
 obtain ⟨b2,o2,cs2,r1,r2,r3,_,r4,_,_,r6,r5⟩:=Sl.tok8 (i:=1) s1 hA rfl rfl
 subst p1
 cases r1
 rw [p3] at r3
 cases r3
 have p6':cs1[o1+2]? =some (.string (runesBytes X.1.2.word)):=by simpa using p6
 have r4':cs1[o1+8+1]? =some (.int .i64 (Y.1.1:Int)):=by simpa using r4
 have r5':o1+8+8≤cs1.length:=by simpa using r5
 have r6':(cs1.drop (o1+8)).take 8=tc4 Y.1++Y.2:=by simpa using r6
 have n0:(0:Int) < (((X::Y::rest).length:Nat):Int):=YN
 have n1:(1:Int) < (((X::Y::rest).length:Nat):Int):=YN
 have n2:¬ (((X::Y::rest).length:Nat):Int) < 2:=YN
 have hYA:=hA Y Yp
 have hdk:(match (X::Y::rest)[0]? with
  | some y=>decide (y.1.2.kind=2)
  | none=>false)=decide (X.1.2.kind=2):=rfl
 rw [hdk]
 generalize hL:(X::Y::rest).length=L at *
 by_cases hk:X.1.2.kind=2
 case neg =>
  rw [if_neg (fun hh=>hk hh.1)]
  simp +decide only [go_sem,WR,WS,hk]
  exact ⟨_,rfl,t1⟩
 simp +decide only [go_sem,WR,WS,hk,n1,n2,p3,Nat.add_zero,Nat.zero_mul,Nat.one_mul,r5',r6']
 refine Zaa Kok x1.1 (Zi4 Y.1 hYA 58 w2) fun r w3 x3 hr=> ?_
 subst hr
 have t2:=t1.ext x3
 have p3':(w3.get b1).read= .cells cs1 8:=by rw [x3.2 _ p2];exact p3
 cases hm58:isM Y.1.2 58 with
 | false =>
   rw [if_neg Yp]
   simp +decide only [go_sem,WR,WS]
   exact ⟨_,rfl,t2⟩
 | true =>
 rw [if_pos rfl]
 have i1:IntKind.i64.wrap (((Y.1.1:Nat):Int)+1)=((Y.1.1+1:Nat):Int):=Yd
 obtain ⟨a',c1',c2'⟩:=t2.rest hne (lo:=Y.1.1+1) Ya
 simp +decide only [go_sem,WR,WS,n0,n1,p3',p6',r4',Nat.add_zero,Nat.zero_mul,Nat.one_mul,i1,c1']
 exact ⟨_,rfl,c2'⟩
end Go.Proofs.YtachkofbmodnnaaGreat.L1
namespace Go.Im.Editing
open Go Go.Im Go.Im.Lexing
def isB (c:Int):Bool:=decide (c=32)
def Zb3 (l:List Int):List Int:=(l.reverse.dropWhile isB).reverse
def trimS (l:List Int):List Int:=Zb3 (l.dropWhile isB)
theorem ZgW {p:Int→Bool}:∀ {a r:List Int},a.all p=true→(a++r).dropWhile p=r.dropWhile p
 | [],r,_=>rfl
 | x::a,r,h=>by
   simp only [List.all_cons,Bool.and_eq_true] at h
   rw [List.cons_append,List.dropWhile_cons_of_pos h.1,ZgW h.2]
theorem dw_stop {p:Int→Bool} {l:List Int} (h:∀ c,l[0]? =some c→p c=false):l.dropWhile p=l:=by
 cases l with
 | nil=>rfl
 | cons c l =>
   rw [List.dropWhile_cons_of_neg]
   have:=h c rfl
   simp [this]
theorem Zfl {l:List Int} {k:Nat} (h1:(l.take k).all isB=true) (h2:∀ c,l[k]? =some c→isB c=false):l.dropWhile isB=l.drop k:=by
 have e:=ZgW (r:=l.drop k) h1
 rw [List.take_append_drop] at e
 rw [e]
 exact dw_stop fun c hc=>h2 c (by rw [List.getElem?_drop] at hc;exact hc)
theorem Zff {m:List Int} {k:Nat} (h0:k≤m.length) (h1:(m.drop k).all isB=true) (h2:0 < k→∀ c,m[k - 1]? =some c→isB c=false):Zb3 m=m.take k:=by
 unfold Zb3
 have e:m.reverse=(m.drop k).reverse++(m.take k).reverse:=by rw [← List.reverse_append,List.take_append_drop]
 rw [e,ZgW (by rw [List.all_reverse];exact h1),dw_stop,List.reverse_reverse]
 intro c hc
 by_cases hk:k=0
 ·subst hk
  simp at hc
 ·refine h2 Ya c ?_
  rw [List.getElem?_reverse Yl,List.length_take,List.getElem?_take] at hc
  rw [if_pos Ya] at hc
  rw [← hc]
  congr 1
  omega
theorem ZlY (m:List Int):(Zb3 m).length≤m.length:=by
 unfold Zb3
 rw [List.length_reverse]
 have:=(List.dropWhile_suffix isB (l:=m.reverse)).length_le
 simpa using this
theorem ZcD (l:List Int):(trimS l).length≤l.length:=by
 have h1:=ZlY (l.dropWhile isB)
 have h2:=(List.dropWhile_suffix isB (l:=l)).length_le
 unfold trimS
 omega
def Zdm:Bool→List Int→Option Bool
 | q,[]=>some q
 | q,c::l=>if c=39 then Zdm (!q) l else if c=9053∧q=false then none else Zdm q l
def Zb5 (l:List Int):List Int × Bool:=match (trimS l).getLast? with
 | some 8711=>match Zdm false (trimS l).dropLast with
   | some false=>(trimS (trimS l).dropLast,true)
   | _=>(trimS l,false)
 | _=>(trimS l,false)
theorem ZoQ (l:List Int):(Zb5 l).1.length≤l.length:=by
 have h1:=ZcD l
 unfold Zb5
 split
 ·split
  ·have h2:=ZcD (trimS l).dropLast
   rw [List.length_dropLast] at h2
   simp only
   omega
  ·exact h1
 ·exact h1
theorem ZpD {l:List Int} (h:(trimS l).getLast? ≠some 8711):Zb5 l=(trimS l,false):=by
 unfold Zb5
 split
 ·rename_i hh
  exact absurd hh h
 ·rfl
theorem ZpC {l:List Int} (h:(trimS l).getLast? =some 8711) (h2:Zdm false (trimS l).dropLast≠some false):Zb5 l=(trimS l,false):=by
 unfold Zb5
 rw [h]
 cases hs:Zdm false (trimS l).dropLast with
 | none=>rfl
 | some q =>
   cases q with
   | true=>rfl
   | false=>exact absurd hs h2
theorem ZpB {l:List Int} (h:(trimS l).getLast? =some 8711) (h2:Zdm false (trimS l).dropLast=some false):Zb5 l=(trimS (trimS l).dropLast,true):=by
 unfold Zb5
 rw [h,h2]
 rfl
def decI (l:List Int):Nat:=l.foldl (fun n c=>10*n+(c.toNat - 48)) 0
theorem Znh (l:List Int) (c:Int):decI (l++[c])=10*decI l+(c.toNat - 48):=by simp [decI]
def frac:Nat→List Int→Nat
 | _,[]=>0
 | p,c::l=>(c.toNat - 48)*p+frac (p / 10) l
theorem ZiE:∀ (l:List Int) (p:Nat) (c:Int),frac p (l++[c])=frac p l+(c.toNat - 48)*(p / 10 ^ l.length)
 | [],p,c=>by simp [frac]
 | d::l,p,c=>by
   rw [List.cons_append,frac,frac,ZiE l,List.length_cons,Nat.pow_succ',Nat.div_div_eq_div_mul]
   omega
def Za4 (l:List Int):Option Nat :=
 if (digs l).length=0∨3 < (digs l).length then none
 else if (digs l).length=l.length then some (decI (digs l)*10000)
 else if l[(digs l).length]? =some 46∧1≤(l.drop ((digs l).length+1)).length∧(l.drop ((digs l).length+1)).length≤4∧(l.drop ((digs l).length+1)).all isD=true then some (decI (digs l)*10000+frac 1000 (l.drop ((digs l).length+1)))
 else none
end Go.Im.Editing
namespace Go.Im
def Ln (h:Heap) (v:Value) (l:List Int):Prop:=(l=[]∧(v= .slice none 0 0∨∃ b o,v= .slice (some ⟨b,o,none⟩) 0 0))∨∃ b o cs,v= .slice (some ⟨b,o,none⟩) l.length big∧b < h.size∧(h.get b).read= .cells cs 1∧o+l.length≤cs.length∧rv l=(cs.drop o).take l.length
theorem Ln.tx {h:Heap} {v:Value} {l:List Int} (t:Ln h v l):Tx h v l:=by
 rcases t with ⟨rfl,rfl | ⟨b,o,rfl⟩⟩ | t
 ·exact .inl ⟨rfl,_,0,rfl⟩
 ·exact .inl ⟨rfl,_,0,rfl⟩
 ·exact .inr t
theorem Ln.ext {h h':Heap} (k:Ext h h') {v:Value} {l:List Int} (t:Ln h v l):Ln h' v l:=by
 rcases t with t | ⟨b,o,cs,h1,h2,h3,h4⟩
 ·exact .inl t
 ·exact .inr ⟨b,o,cs,h1,by have:=k.1;omega,by rw [k.2 b h2];exact h3,h4⟩
theorem Ln.open {h:Heap} {v:Value} {l:List Int} (t:Ln h v l):∃ a c,v= .slice a l.length c:=t.tx.open
theorem Ln.of {h:Heap} {a:Option Addr} {n c:Nat} {l:List Int} (s:Sl h 1 a n c (rv l)) (hc:c=0∨c=big):Ln h (.slice a n c) l:=by
 have hn:l.length=n:=by have:=s.length;rw [Zcl] at this;omega
 subst hn
 rcases s with ⟨rfl,h0,rfl,h1⟩ | ⟨b,o,rfl,h0,rfl,h1⟩ | ⟨b,o,cs,rfl,h2,h3,h4,h5,h6,_⟩
 ·exact .inl ⟨List.eq_nil_of_length_eq_zero h0,.inl (by rw [h0])⟩
 ·exact .inl ⟨List.eq_nil_of_length_eq_zero h0,.inr ⟨b,o,by rw [h0]⟩⟩
 ·exact .inr ⟨b,o,cs,by rw [hc.resolve_left Ya],h3,h4,by omega,by simpa using h6⟩
theorem Ln.new {h:Heap} {b:Nat} {l:List Int} (hb:b < h.size) (hg:h.get b= .cells (rv l) 1):Ln h (.slice (some ⟨b,0,none⟩) l.length big) l :=
 .inr ⟨b,0,rv l,rfl,hb,by rw [hg];rfl,by rw [Zcl];omega,by rw [List.drop_zero,List.take_of_length_le (by rw [Zcl];omega)]⟩
theorem Ln.Zak {h:Heap} {a:Option Addr} {n c:Nat} {l:List Int} (t:Ln h (.slice a n c) l):Zak h 1 (.slice a n c)=some (rv l):=by
 rcases t with ⟨rfl,hv | ⟨b,o,hv⟩⟩ | ⟨b,o,cs,hv,h2,h3,h4,h5⟩
 ·cases hv
  rfl
 ·cases hv
  simp only [Im.Zak,rv,intCells,List.map_nil]
  split<;>simp
 ·cases hv
  simp only [Im.Zak,Heap.look,h3]
  rw [if_pos ⟨trivial,by omega⟩,h5,Nat.mul_one]
theorem Ln.cut {h:Heap} {a:Option Addr} {n c:Nat} {l:List Int} (t:Ln h (.slice a n c) l) {lo hi:Option Value} {x y:Nat} (hlo:Zag 0 lo=some x) (hhi:Zag l.length hi=some y) (h1:x≤y) (h2:y≤l.length) :
  ∃ a' c',irsl (some (.slice 1)) h a n c lo hi none=some (.slice a' (y - x) c')∧Ln h (.slice a' (y - x) c') ((l.drop x).take (y - x)):=by
 rcases t with ⟨rfl,hv⟩ | ⟨b,o,cs,hv,e2,e3,e4,e5⟩
 ·have hc:n=0∧c=0:=by
   rcases hv with hv | ⟨b,o,hv⟩<;>(cases hv;exact ⟨rfl,rfl⟩)
  obtain ⟨rfl,rfl⟩:=hc
  have:y=0:=by simpa using h2
  subst this
  have:x=0:=by omega
  subst this
  have hin:Zb4 0 0 lo hi none=some (0,0,0):=Za6 hlo hhi Ya Ya
  refine ⟨a,0,?_,.inl ⟨by simp,hv⟩⟩
  simp only [irsl,hin]
  simp [big]
 ·cases hv
  have hin:=Za6 (n:=l.length) (cap:=cs.length - o) hlo hhi h1 Ya
  have hlen:((l.drop x).take (y - x)).length=y - x:=Yl
  have hcs:rv ((l.drop x).take (y - x))=(cs.drop (o+x)).take (y - x):=by
   rw [← ZlT,← Zi2,e5,List.drop_take,List.take_take,List.drop_drop]
   congr 1
   omega
  refine ⟨some ⟨b,o+x,none⟩,big,?_,.inr ⟨b,o+x,cs,by rw [hlen],e2,e3,by rw [hlen];omega,by rw [hlen];exact hcs⟩⟩
  simp only [irsl,Nat.lt_irrefl,if_false,if_true,Heap.look,e3,Nat.div_one,hin,Nat.mul_one,ne_eq,not_true_eq_false]
theorem Ln.one {h:Heap} {v:Value} {l:List Int} {i:Nat} {x:Int} (t:Ln h v l) (hx:l[i]? =some x) :
  ∃ b o cs,v= .slice (some ⟨b,o,none⟩) l.length big∧b < h.size∧(h.get b).read= .cells cs 1∧cs[o+i]? =some (.int .i32 x):=t.tx.one hx
end Go.Im
namespace Go.Proofs.YtachkofbmodnnaaGreat.E2
open Go Go.Im Go.Im.Lexing Go.Im.Editing Go.Proofs Go.RowKit Hd
set_option maxRecDepth 100000
theorem drop_one {l:List Int} {k:Nat}:(l.drop k).drop 1=l.drop (k+1):=by rw [List.drop_drop]
theorem ZaI (l:List Int) (h:Heap) {tv:Value} (t:Ln h tv l) (hm:l.length≤9223372036854775807):Runs K 33 #[tv] h fun r w=>w=h∧Ln h r (trimS l):=by
 refine Runs.of Kok (Does.intro rfl Ye Tryz.func33 rfl ?_)
 apply Za1 (α:=Value × List Int) (fun v e w=>e.size=32∧h=w∧e.get 0=v.1∧Ln h v.1 v.2∧v.2=l.dropWhile isB)
 ·intro cont
  simp +decide only [go_sem,WR,WS]
  refine Zah (α:=Nat × Value) (fun k e w=>k.1≤l.length∧e.size=32∧h=w∧e.get 0=k.2∧Ln h k.2 (l.drop k.1)∧(l.take k.1).all isB=true) (fun k=>l.length - k.1) (0,tv) ?_ ?_
  ·exact ⟨Nat.zero_le _,Yc,rfl,Yc,by simpa using t,by simp⟩
  rintro ⟨k,v⟩ e w ⟨hk,hsz,hw,e0,tk,hall⟩ next
  subst hw
  simp only at hk e0 tk hall
  by_cases hkl:k < l.length
  ·obtain ⟨x,hx⟩:∃ x,l[k]? =some x:=⟨_,List.getElem?_eq_getElem hkl⟩
   have hx0:(l.drop k)[0]? =some x:=by rw [List.getElem?_drop];exact hx
   obtain ⟨b,o,cs,rfl,q2,q3,q4⟩:=tk.one hx0
   rw [Nat.add_zero] at q4
   have d0:(0:Int) < (((l.drop k).length:Nat):Int):=by rw [List.length_drop];omega
   by_cases h32:x=32
   ·obtain ⟨a',c',f1,tk'⟩:=tk.cut (lo:=some (.int .i64 1)) (hi:=none) (x:=1) (y:=(l.drop k).length) rfl rfl (by rw [List.length_drop];omega) (Nat.le_refl _)
    rw [drop_one,List.take_of_length_le (by simp only [List.length_drop];omega)] at tk'
    simp +decide only [go_sem,WR,WS,hsz,e0,d0,q3,q4,h32,f1]
    refine next (k+1,.slice a' ((l.drop k).length - 1) c') _ _ ⟨by simp only;omega,Yb,rfl,Yb,tk',?_⟩ Yj
    rw [List.take_add_one,hx,List.all_append,hall]
    simp [isB,h32]
   ·simp +decide only [go_sem,WR,WS,hsz,e0,d0,q3,q4,h32]
    refine cont (_,l.drop k) _ _ ⟨Yb,rfl,Yf,tk,(Zfl hall fun c hc=> ?_).symm⟩
    rw [hx] at hc
    cases hc
    simp [isB,h32]
  ·have hke:l.drop k=[]:=List.drop_of_length_le Ya
   rw [hke] at tk
   obtain ⟨a,c,rfl⟩:=tk.open
   simp +decide only [go_sem,WR,WS,hsz,e0,List.length_nil,Int.natCast_zero,Int.lt_irrefl]
   refine cont (_,[]) _ _ ⟨Yb,rfl,Yf,tk,?_⟩
   rw [← hke]
   exact (Zfl hall fun c hc=>by simp [List.getElem?_eq_none (show l.length≤k by omega)] at hc).symm
 rintro ⟨v,m⟩ e w ⟨hsz,hw,e0,tm,hm'⟩
 subst hw
 simp only at e0 tm hm'
 have hml:m.length≤l.length:=by rw [hm'];exact (List.dropWhile_suffix isB).length_le
 refine Zah (α:=Nat × Value) (fun k e w'=>k.1≤m.length∧e.size=32∧h=w'∧e.get 0=k.2∧Ln h k.2 (m.take k.1)∧(m.drop k.1).all isB=true) (fun k=>k.1) (m.length,v) ?_ ?_
 ·exact ⟨Nat.le_refl _,hsz,rfl,e0,by simpa using tm,by simp⟩
 rintro ⟨k,v⟩ e w' ⟨hk,hsz,hw,e0,tk,hall⟩ next
 subst hw
 simp only at hk e0 tk hall
 have hkl:(m.take k).length=k:=Yl
 by_cases h0:0 < k
 ·obtain ⟨x,hx⟩:∃ x,m[k - 1]? =some x:=⟨_,List.getElem?_eq_getElem Ya⟩
  have hx0:(m.take k)[k - 1]? =some x:=by rw [List.getElem?_take,if_pos Ya];exact hx
  obtain ⟨b,o,cs,rfl,q2,q3,q4⟩:=tk.one hx0
  have d0:(0:Int) < ((k:Nat):Int):=Ya
  have i1:IntKind.i64.wrap ((k:Int) - 1)=((k - 1:Nat):Int):=Yd
  have c0:(0:Int)≤((k - 1:Nat):Int):=Ya
  have c1:((k - 1:Nat):Int) < ((k:Nat):Int):=Ya
  by_cases h32:x=32
  ·obtain ⟨a',c',f1,tk'⟩:=tk.cut (lo:=none) (hi:=some (.int .i64 ((k - 1:Nat):Int))) (x:=0) (y:=k - 1) rfl YF (Nat.zero_le _) Ya
   rw [List.drop_zero,List.take_take,Nat.sub_zero,Nat.min_eq_left Ya] at tk'
   rw [hkl] at f1 e0
   simp +decide only [go_sem,WR,WS,hsz,e0,d0,i1,c0,c1,Int.toNat_natCast,q3,q4,h32,f1]
   refine next (k - 1,.slice a' (k - 1) c') _ _ ⟨by simp only;omega,Yb,rfl,by simp +decide only [go_sem,hsz,Nat.sub_zero],tk',?_⟩ Yj
   have hd:m.drop (k - 1)=x::m.drop k:=by
    obtain ⟨g1,g2⟩:=List.getElem?_eq_some_iff.1 hx
    rw [List.drop_eq_getElem_cons g1,g2]
    congr 2
    omega
   rw [hd,List.all_cons,hall]
   simp [isB,h32]
  ·rw [hkl] at e0
   simp +decide only [go_sem,WR,WS,hsz,e0,d0,i1,c0,c1,Int.toNat_natCast,q3,q4,h32]
   rw [trimS,← hm',Zff hk hall fun _ c hc=>by rw [hx] at hc;cases hc;simp [isB,h32],← hkl]
   rw [hkl]
   rw [hkl] at tk
   exact tk
 ·have hk0:k=0:=by omega
  subst hk0
  obtain ⟨a,c,rfl⟩:=tk.open
  rw [hkl] at e0
  simp +decide only [go_sem,WR,WS,hsz,e0,Int.natCast_zero,Int.lt_irrefl]
  rw [trimS,← hm',Zff hk hall fun hh=>absurd hh Ya]
  exact tk
theorem ZlW (l:List Int) (h:Heap) {tv:Value} (t:Ln h tv l) (hm:l.length≤9223372036854775807):Runs K 34 #[tv] h fun r w=>w=h∧Ln h r (trimS l):=by
 refine Runs.of Kok (Does.intro rfl Ye Tryz.func34 rfl ?_)
 obtain ⟨a,c,rfl⟩:=t.open
 apply Za1 (α:=Nat) (fun k e w=>e.size=36∧h=w∧e.get 0= .slice a l.length c∧e.get 3= .int .i64 (k:Int)∧e.get 4= .int .i64 ((l.length:Nat):Int)∧k≤l.length∧l.drop k=l.dropWhile isB)
 ·intro cont
  simp +decide only [go_sem,WR,WS]
  refine Zah (α:=Nat) (fun k e w=>k≤l.length∧e.size=36∧h=w∧e.get 0= .slice a l.length c∧e.get 3= .int .i64 (k:Int)∧e.get 4= .int .i64 ((l.length:Nat):Int)∧(l.take k).all isB=true) (fun k=>l.length - k) 0 ?_ ?_
  ·exact ⟨Nat.zero_le _,Yc,rfl,Yc,by simp +decide only [go_sem];rfl,Yc,by simp⟩
  rintro k e w ⟨hk,hsz,hw,e0,e3,e4,hall⟩ next
  subst hw
  by_cases hkl:(k:Int) < ((l.length:Nat):Int)
  ·obtain ⟨x,hx⟩:∃ x,l[k]? =some x:=⟨_,List.getElem?_eq_getElem Ya⟩
   obtain ⟨b,o,cs,hq,q2,q3,q4⟩:=t.one hx
   cases hq
   have c0:(0:Int)≤(k:Int):=Ya
   have i1:IntKind.i64.wrap ((k:Int)+1)=((k+1:Nat):Int):=Yd
   by_cases h32:x=32
   ·simp +decide only [go_sem,WR,WS,hsz,e0,e3,e4,hkl,c0,Int.toNat_natCast,q3,q4,h32,i1]
    refine next (k+1) _ _ ⟨by omega,Yb,rfl,Yf,Yb,Yg,?_⟩ Ya
    rw [List.take_add_one,hx,List.all_append,hall]
    simp [isB,h32]
   ·simp +decide only [go_sem,WR,WS,hsz,e0,e3,e4,hkl,c0,Int.toNat_natCast,q3,q4,h32]
    refine cont k _ _ ⟨Yb,rfl,Yf,Yq,Yg,hk,(Zfl hall fun c hc=> ?_).symm⟩
    rw [hx] at hc
    cases hc
    simp [isB,h32]
  ·simp +decide only [go_sem,WR,WS,hsz,e0,e3,e4,hkl]
   refine cont k _ _ ⟨Yb,rfl,Yf,Yq,Yg,hk,(Zfl hall fun c hc=> ?_).symm⟩
   rw [List.getElem?_eq_none Ya] at hc
   cases hc
 rintro f e w ⟨hsz,hw,e0,e3,e4,hf,hdw⟩
 subst hw
 refine Zah (α:=Nat) (fun k e w'=>f≤k∧k≤l.length∧e.size=36∧h=w'∧e.get 0= .slice a l.length c∧e.get 3= .int .i64 (f:Int)∧e.get 4= .int .i64 (k:Int)∧(l.drop k).all isB=true) (fun k=>k) l.length ?_ ?_
 ·exact ⟨hf,Nat.le_refl _,hsz,rfl,e0,e3,e4,by simp⟩
 rintro k e w' ⟨hfk,hk,hsz,hw,e0,e3,e4,hall⟩ next
 subst hw
 have fin:(f < k→∀ c,l[k - 1]? =some c→isB c=false)→trimS l=(l.drop f).take (k - f):=fun hh=>by
  rw [trimS,← hdw]
  refine Zff Yl ?_ fun h0 c hc=> ?_
  ·rw [List.drop_drop,show f+(k - f)=k by omega]
   exact hall
  ·rw [List.getElem?_drop,show f+(k - f - 1)=k - 1 by omega] at hc
   exact hh Ya c hc
 have j0:(0:Int)≤(f:Int):=Ya
 obtain ⟨a',c',f1,tk'⟩:=t.cut (lo:=some (.int .i64 (f:Int))) (hi:=some (.int .i64 (k:Int))) (x:=f) (y:=k) YF YF hfk hk
 by_cases h0:(f:Int) < ((k:Nat):Int)
 ·obtain ⟨x,hx⟩:∃ x,l[k - 1]? =some x:=⟨_,List.getElem?_eq_getElem Ya⟩
  obtain ⟨b,o,cs,hq,q2,q3,q4⟩:=t.one hx
  cases hq
  have i1:IntKind.i64.wrap ((k:Int) - 1)=((k - 1:Nat):Int):=Yd
  have c0:(0:Int)≤((k - 1:Nat):Int):=Ya
  have c1:((k - 1:Nat):Int) < ((l.length:Nat):Int):=Ya
  by_cases h32:x=32
  ·simp +decide only [go_sem,WR,WS,hsz,e0,e3,e4,h0,i1,c0,c1,Int.toNat_natCast,q3,q4,h32]
   refine next (k - 1) _ _ ⟨by omega,by omega,Yb,rfl,Yf,Yq,Yb,?_⟩ Ya
   have hd:l.drop (k - 1)=x::l.drop k:=by
    obtain ⟨g1,g2⟩:=List.getElem?_eq_some_iff.1 hx
    rw [List.drop_eq_getElem_cons g1,g2]
    congr 2
    omega
   rw [hd,List.all_cons,hall]
   simp [isB,h32]
  ·simp +decide only [go_sem,WR,WS,hsz,e0,e3,e4,h0,i1,c0,c1,Int.toNat_natCast,q3,q4,h32,f1]
   rw [fin fun _ c hc=>by rw [hx] at hc;cases hc;simp [isB,h32]]
   exact tk'
 ·simp +decide only [go_sem,WR,WS,hsz,e0,e3,e4,h0,f1]
  rw [fin fun hh=>absurd hh Ya]
  exact tk'
end Go.Proofs.YtachkofbmodnnaaGreat.E2
namespace Go.Im.Defn
open Go Go.Im Go.Im.Lexing Go.Im.Heads Go.Im.Editing
theorem ZeL {l:List Int} {ts:List (Nat × Tk)} (h:lex l=some ts):l.length≤512:=by
 unfold lex at h
 split at h
 ·cases h
 ·omega
def runesL (s:ByteArray):Nat→Nat→List Int
 | 0,_=>[]
 | f+1,i=>if i < s.size then ((Utf8.decode s i).1:Int)::runesL s f (i+(Utf8.decode s i).2) else []
def Zai (s:ByteArray):List Int:=runesL s s.size 0
theorem Ze2 (s:ByteArray):∀ (f i:Nat) (acc:Array Value),Conv.runesFrom s f i acc=acc++(rv (runesL s f i)).toArray
 | 0,i,acc=>by simp [Conv.runesFrom,runesL,rv,intCells]
 | f+1,i,acc=>by
   rw [Conv.runesFrom,runesL]
   by_cases h:i < s.size
   ·rw [if_pos h,if_pos h]
    simp only
    rw [Ze2 s f]
    simp [rv,intCells]
   ·rw [if_neg h,if_neg h]
    simp [rv,intCells]
theorem Zgz (s:ByteArray):∀ (f i:Nat),(runesL s f i).length≤f
 | 0,i=>by simp [runesL]
 | f+1,i=>by
   rw [runesL]
   split
   ·have:=Zgz s f (i+(Utf8.decode s i).2)
    simp only [List.length_cons]
    omega
   ·simp
theorem Zc7 (s:ByteArray):(Zai s).length≤s.size:=Zgz s s.size 0
theorem ZhY (s:ByteArray):(Conv.runesFrom s s.size 0 #[]).toList=rv (Zai s):=by
 rw [Ze2]
 simp [Zai]
theorem Zfp {l:List UInt8} {h:Heap}:icvt (some .i32) l h=some (.slice (some ⟨h.size,0,none⟩) (Zai (text l)).length big,h.push (.cells (rv (Zai (text l))) 1)):=by
 simp only [icvt,ZhY,Zcl]
instance memB (s:ByteArray) (l:List ByteArray):Decidable (s ∈ l):= @List.instDecidableMemOfLawfulBEq _ instBEqOfDecidableEq _ s l
structure DefT where
 hd:HdT
 lines:List ByteArray
 labels:List (ByteArray × Nat)
def dZ:DefT:=⟨hdZ,[],[]⟩
def Zau (x:HdT):List ByteArray→Nat→List ByteArray→List (ByteArray × Nat)→List ByteArray→DefT × Int
 | [],_,ls,lb,_=>(⟨x,ls,lb⟩, -1)
 | r::rs,i,ls,lb,tk =>
   if (lex (trimS (Zai r))).isNone=true∨200 < i then (dZ,(i:Int))
   else if (ZaO (trimS (Zai r))).1=E then Zau x rs (i+1) (ls++[runesBytes (trimS (Zai r))]) lb tk
   else if (ZaO (trimS (Zai r))).1 ∈ tk then (dZ,(i:Int))
   else Zau x rs (i+1) (ls++[runesBytes (trimS (Zai r))]) (lb++[((ZaO (trimS (Zai r))).1,i)]) (tk++[(ZaO (trimS (Zai r))).1])
def ZaM:List ByteArray→DefT × Int
 | []=>(dZ,0)
 | r::rs=>if (hdp (Zai r)).2=true then Zau (hdp (Zai r)).1 rs 1 [] [] (hdp (Zai r)).1.all else (dZ,0)
theorem ZcV {x:HdT} {r:ByteArray} {rs:List ByteArray} {i:Nat} {ls:List ByteArray} {lb:List (ByteArray × Nat)} {tk:List ByteArray} (h:(lex (trimS (Zai r))).isNone=true∨200 < i):Zau x (r::rs) i ls lb tk=(dZ,(i:Int)):=by
 rw [Zau,if_pos h]
theorem Zde {x:HdT} {r:ByteArray} {rs:List ByteArray} {i:Nat} {ls:List ByteArray} {lb:List (ByteArray × Nat)} {tk:List ByteArray} (h:¬ ((lex (trimS (Zai r))).isNone=true∨200 < i)) (h2:(ZaO (trimS (Zai r))).1=E) :
  Zau x (r::rs) i ls lb tk=Zau x rs (i+1) (ls++[runesBytes (trimS (Zai r))]) lb tk:=by
 rw [Zau,if_neg h,if_pos h2]
theorem ZdD {x:HdT} {r:ByteArray} {rs:List ByteArray} {i:Nat} {ls:List ByteArray} {lb:List (ByteArray × Nat)} {tk:List ByteArray} (h:¬ ((lex (trimS (Zai r))).isNone=true∨200 < i)) (h2:¬ (ZaO (trimS (Zai r))).1=E) (h3:(ZaO (trimS (Zai r))).1 ∈ tk) :
  Zau x (r::rs) i ls lb tk=(dZ,(i:Int)):=by
 rw [Zau,if_neg h,if_neg h2,if_pos h3]
theorem Zdf {x:HdT} {r:ByteArray} {rs:List ByteArray} {i:Nat} {ls:List ByteArray} {lb:List (ByteArray × Nat)} {tk:List ByteArray} (h:¬ ((lex (trimS (Zai r))).isNone=true∨200 < i)) (h2:¬ (ZaO (trimS (Zai r))).1=E) (h3:¬ (ZaO (trimS (Zai r))).1 ∈ tk) :
  Zau x (r::rs) i ls lb tk=Zau x rs (i+1) (ls++[runesBytes (trimS (Zai r))]) (lb++[((ZaO (trimS (Zai r))).1,i)]) (tk++[(ZaO (trimS (Zai r))).1]):=by
 rw [Zau,if_neg h,if_neg h2,if_neg h3]
def lbv (lb:List (ByteArray × Nat)):List Value:=lb.flatMap fun p=>[Value.string p.1,Value.int .i64 (p.2:Int)]
theorem Zk4 (a b:List (ByteArray × Nat)):lbv (a++b)=lbv a++lbv b:=by simp [lbv]
def dl (x:HdT) (hv lv bv:Value):List Value:=[.string x.nm,.string x.re,.string x.le,.string x.ri,hv,lv,bv]
def DV (w:Heap) (v:Value) (d:DefT):Prop:=∃ a c a1 c1 a2 c2,v= .agg (dl d.hd (.slice a d.hd.ls.length c) (.slice a1 d.lines.length c1) (.slice a2 d.labels.length c2)).toArray ∧
 Sl w 1 a d.hd.ls.length c (sv d.hd.ls)∧Sl w 1 a1 d.lines.length c1 (sv d.lines)∧Sl w 2 a2 d.labels.length c2 (lbv d.labels)
theorem DV.ext {w w':Heap} (k:Ext w w') {v:Value} {d:DefT} (H:DV w v d):DV w' v d:=by
 obtain ⟨a,c,a1,c1,a2,c2,h1,h2,h3,h4⟩:=H
 exact ⟨a,c,a1,c1,a2,c2,h1,h2.ext k,h3.ext k,h4.ext k⟩
theorem DV.zero (w:Heap):DV w (.agg (dl hdZ (.slice none 0 0) (.slice none 0 0) (.slice none 0 0)).toArray) dZ :=
 ⟨none,0,none,0,none,0,rfl,Sl.nil _ _,Sl.nil _ _,Sl.nil _ _⟩
theorem Zh6 {low:Nat} {h:Heap} {size n b:Nat} {v:Value} {xs:List Value} (H:Own low h size v n xs) (hv:vblk v=some b):low≤b∧b < h.size:=by
 rcases H with ⟨rfl,_⟩ | ⟨b',rfl,h1,h2,_⟩
 ·simp [vblk] at hv
 ·simp only [vblk,Option.some.injEq] at hv
  omega
theorem Zc2 {low:Nat} {B W:Heap} (hlow:low≤B.size) (x:Ext B W) {size bytes:Nat} {v:Value} {n k:Nat} {xs new:List Value} (H:Own B.size W size v n xs) (hs:0 < size) (hk:0 < k) (hn:new.length=k*size)
  (hb:2*(n+k)*bytes≤140737488355328) (hc:n+k≤4611686018427387904) :
  ∃ w',iapp low W size bytes v k (some new)=some (.slice (some ⟨W.size,0,none⟩) (n+k) big,w')∧Own B.size w' size (.slice (some ⟨W.size,0,none⟩) (n+k) big) (n+k) (xs++new)∧w'.size=W.size+1∧Ext B w'∧∀ b,b < W.size→vblk v≠some b→w'.get b=W.get b:=by
 obtain ⟨w',h1,h2,h3,h4⟩:=ZdC (H.keep hlow fun b hb _=>⟨rfl,hb⟩) (Nat.le_trans hlow x.1) hs hk hn hb hc
 refine ⟨w',h1,?_,h3,⟨by have:=x.1;omega,fun b hb=> ?_⟩,h4⟩
 ·rcases h2 with ⟨h5,_⟩ | ⟨b,h5,_,h6,h7,h8⟩
  ·cases h5
  ·cases h5
   exact .inr ⟨W.size,rfl,x.1,h6,h7,h8⟩
 ·rw [h4 b (by have:=x.1;omega),x.2 b hb]
  intro hv
  have:=(Zh6 H hv).1
  omega
def RK (w w':Heap):Prop:=w.size≤w'.size∧∀ b,b < w.size→(∃ (cs:List Value) (i:Nat) (n:Int),(w.get b).read= .cells cs 1∧cs[i]? =some (Value.int .i32 n))→w'.get b=w.get b
theorem RK.of {w w':Heap} (k:Ext w w'):RK w w':=⟨k.1,fun b hb _=>k.2 b hb⟩
theorem RK.trans {w w' w'':Heap} (h:RK w w') (k:RK w' w''):RK w w'' :=
 ⟨Nat.le_trans h.1 k.1,fun b hb hc=>by
   have e:=h.2 b hb hc
   rw [k.2 b (by have:=h.1;omega) (by rw [e];exact hc),e]⟩
theorem ZuB {ls:List ByteArray} {i:Nat} {n:Int} (h:(sv ls)[i]? =some (.int .i32 n)):False:=by
 rw [sv,List.getElem?_map] at h
 cases hl:ls[i]? <;>simp [hl] at h
theorem RK.own {low:Nat} {w w':Heap} {v:Value} {ls:List ByteArray} (H:Own low w 1 v ls.length (sv ls)) (hs:w.size≤w'.size) (k:∀ b,b < w.size→vblk v≠some b→w'.get b=w.get b):RK w w' :=
 ⟨hs,fun b hb ⟨cs,i,n,h1,h2⟩=>k b hb fun hv=>by
   rcases H with ⟨rfl,_⟩ | ⟨b',rfl,_,_,h3,_⟩
   ·simp [vblk] at hv
   ·simp only [vblk,Option.some.injEq] at hv
    subst hv
    rw [h3] at h1
    cases h1
    exact ZuB h2⟩
theorem RK.other {low e:Nat} {w w':Heap} {v:Value} {n:Nat} {xs:List Value} (H:Own low w e v n xs) (he:e≠1) (hs:w.size≤w'.size) (k:∀ b,b < w.size→vblk v≠some b→w'.get b=w.get b):RK w w' :=
 ⟨hs,fun b hb ⟨cs,i,n,h1,h2⟩=>k b hb fun hv=>by
   rcases H with ⟨rfl,_⟩ | ⟨b',rfl,_,_,h3,_⟩
   ·simp [vblk] at hv
   ·simp only [vblk,Option.some.injEq] at hv
    subst hv
    rw [h3] at h1
    simp only [Blk.read,Blk.cells.injEq] at h1
    exact he h1.2⟩
theorem RK.put {w:Heap} {q e:Nat} {C:List Value} {y:Blk} (hg:w.get q= .cells C e) (he:e≠1):RK w (w.set q y) :=
 ⟨by simp,fun b hb ⟨cs,i,n,h1,h2⟩=>by
   rw [Heap.Zae,if_neg]
   intro hh
   subst hh
   rw [hg] at h1
   simp only [Blk.read,Blk.cells.injEq] at h1
   exact he h1.2⟩
theorem RK.Zak {w w':Heap} (k:RK w w') {a:Option Addr} {n c:Nat} {l:List Int} (t:Ln w (.slice a n c) l):Im.Zak w' 1 (.slice a n c)=some (rv l):=by
 have t0:=t
 rcases t with ⟨rfl,hv | ⟨b,o,hv⟩⟩ | ⟨b,o,cs,hv,h2,h3,h4,h5⟩
 ·cases hv
  rfl
 ·cases hv
  simp only [Im.Zak,rv,intCells,List.map_nil]
  split<;>simp
 ·by_cases h0:l=[]
  ·subst h0
   cases hv
   simp only [Im.Zak,List.length_nil,rv,intCells,List.map_nil,Nat.zero_mul,Nat.add_zero,List.take_zero]
   split
   ·split<;>simp
   ·simp
  ·cases hv
   obtain ⟨x,hx⟩:∃ x,l[0]? =some x:=⟨_,List.getElem?_eq_getElem (List.length_pos_iff.2 h0)⟩
   have h6:=ZlU hx
   rw [h5,List.getElem?_take,if_pos (List.length_pos_iff.2 h0),List.getElem?_drop] at h6
   have e:=k.2 b h2 ⟨cs,_,_,h3,h6⟩
   simp only [Im.Zak,Heap.look,e,h3]
   rw [if_pos ⟨trivial,by omega⟩,h5,Nat.mul_one]
theorem ZlL {w w':Heap} {size q e n c:Nat} {a:Option Addr} {C xs:List Value} {y:Blk} (s:Sl w size a n c xs) (hg:w.get q= .cells C e) (he:e≠size) (hw:w.set q y=w'):Sl w' size a n c xs:=by
 rcases s with h1 | h1 | ⟨b,o,cs,h1,h2,h3,h4,h5⟩
 ·exact .inl h1
 ·exact .inr (.inl h1)
 ·refine .inr (.inr ⟨b,o,cs,h1,h2,by rw [← hw];exact h3,?_,h5⟩)
  rw [← hw,Heap.Zae,if_neg]
  ·exact h4
  ·intro hh
   subst hh
   rw [hg] at h4
   simp only [Blk.read,Blk.cells.injEq] at h4
   exact he h4.2
theorem DV.put {w w':Heap} {q:Nat} {C:List Value} {y:Blk} {v:Value} {d:DefT} (H:DV w v d) (hg:w.get q= .cells C 7) (hw:w.set q y=w'):DV w' v d:=by
 obtain ⟨a,c,a1,c1,a2,c2,h1,h2,h3,h4⟩:=H
 exact ⟨a,c,a1,c1,a2,c2,h1,ZlL h2 hg Ya hw,ZlL h3 hg Ya hw,ZlL h4 hg Ya hw⟩
structure DS (B:Heap) (q:Nat) (W:Heap) (x:HdT) (hv lv bv tv:Value) (ls:List ByteArray) (lb:List (ByteArray × Nat)) (tk:List ByteArray):Prop where
 ext:Ext B W
 lq:B.size≤q
 hq:q < W.size
 g:W.get q= .cells (dl x hv lv bv) 7
 ol:Own B.size W 1 lv ls.length (sv ls)
 ob:Own B.size W 2 bv lb.length (lbv lb)
 ot:Own B.size W 1 tv tk.length (sv tk)
 dj:∀ b,vblk lv=some b→vblk tv≠some b
theorem DS.more {B:Heap} {q:Nat} {W W':Heap} {x:HdT} {hv lv bv tv:Value} {ls:List ByteArray} {lb:List (ByteArray × Nat)} {tk:List ByteArray} (S:DS B q W x hv lv bv tv ls lb tk) (k:Ext W W'):DS B q W' x hv lv bv tv ls lb tk :=
 ⟨S.ext.trans k,S.lq,by have:=S.hq;have:=k.1;omega,(k.2 _ S.hq).trans S.g,S.ol.ext k,S.ob.ext k,S.ot.ext k,S.dj⟩
theorem Zhf {low:Nat} {h:Heap} {s1 s2 n m b:Nat} {v u:Value} {xs ys:List Value} (H:Own low h s1 v n xs) (K:Own low h s2 u m ys) (hs:s1≠s2) (hv:vblk v=some b):vblk u≠some b:=by
 rcases H with ⟨rfl,_⟩ | ⟨b',rfl,_,_,h3,_⟩
 ·simp [vblk] at hv
 ·simp only [vblk,Option.some.injEq] at hv
  subst hv
  exact K.ne h3 hs
theorem DS.take {B:Heap} {q:Nat} {W:Heap} {x:HdT} {hv lv bv tv:Value} {ls:List ByteArray} {lb:List (ByteArray × Nat)} {tk:List ByteArray} (S:DS B q W x hv lv bv tv ls lb tk) {low:Nat} (hlow:low≤B.size) (s:ByteArray) (hn:tk.length≤100000) :
  ∃ w1 w2:Heap,W.push (.cells [.string s] 1)=w1∧w1.get W.size= .cells [.string s] 1∧iapp low w1 1 16 tv 1 (some [.string s])=some (.slice (some ⟨w1.size,0,none⟩) (tk.length+1) big,w2) ∧
    DS B q w2 x hv lv bv (.slice (some ⟨w1.size,0,none⟩) (tk.length+1) big) ls lb (tk++[s])∧RK W w2:=by
 obtain ⟨w1,e1,x1,hs1,z1⟩:=lay1 W (.cells [.string s] 1)
 have S1:=S.more x1
 obtain ⟨w2,e2,o2,hs2,x2,k2⟩:=Zc2 (bytes:=16) (k:=1) (new:=[.string s]) hlow S1.ext S1.ot Ya Ya rfl Ya Ya
 have hq1:=S1.hq
 refine ⟨w1,w2,e1,z1,e2,⟨x2,S1.lq,by omega,(k2 q hq1 (S1.ot.ne S1.g Ya)).trans S1.g,?_,?_,?_,?_⟩,(RK.of x1).trans (RK.own S1.ot Ya k2)⟩
 ·exact S1.ol.keep (Nat.le_refl _) fun b hb hv=>⟨k2 b hb (S1.dj b hv),by omega⟩
 ·exact S1.ob.keep (Nat.le_refl _) fun b hb hv=>⟨k2 b hb (Zhf S1.ob S1.ot Ya hv),by omega⟩
 ·rw [List.length_append,Zbb]
  exact o2
 ·intro b hb
  have:=(Zh6 S1.ol hb).2
  simp only [vblk,ne_eq,Option.some.injEq]
  omega
theorem ZeG {low:Nat} {h w:Heap} {size n q e:Nat} {v:Value} {xs C:List Value} {y:Blk} (H:Own low h size v n xs) (hg:h.get q= .cells C e) (he:e≠size) (hw:h.set q y=w):Own low w size v n xs :=
 H.keep (Nat.le_refl _) fun b hb hv=>⟨by rw [← hw,Heap.Zae,if_neg];intro hh;subst hh;exact H.ne hg he hv,by rw [← hw];exact hb⟩
theorem Zl9 {B W w:Heap} {q:Nat} {y:Blk} (x:Ext B W) (hq:B.size≤q) (hw:W.set q y=w):Ext B w:=by
 rw [← hw]
 exact x.set hq y
theorem DS.line {B:Heap} {q:Nat} {W:Heap} {x:HdT} {hv lv bv tv:Value} {ls:List ByteArray} {lb:List (ByteArray × Nat)} {tk:List ByteArray} (S:DS B q W x hv lv bv tv ls lb tk) {low:Nat} (hlow:low≤B.size) (s:ByteArray) (hn:ls.length≤100000) :
  ∃ w1 w2 w3:Heap,W.push (.cells [.string s] 1)=w1∧w1.get W.size= .cells [.string s] 1∧iapp low w1 1 16 lv 1 (some [.string s])=some (.slice (some ⟨w1.size,0,none⟩) (ls.length+1) big,w2)∧w2.get q= .cells (dl x hv lv bv) 7 ∧
    w2.set q (.cells (dl x hv (.slice (some ⟨w1.size,0,none⟩) (ls.length+1) big) bv) 7)=w3∧DS B q w3 x hv (.slice (some ⟨w1.size,0,none⟩) (ls.length+1) big) bv tv (ls++[s]) lb tk:=by
 obtain ⟨w1,e1,x1,hs1,z1⟩:=lay1 W (.cells [.string s] 1)
 have S1:=S.more x1
 obtain ⟨w2,e2,o2,hs2,x2,k2⟩:=Zc2 (bytes:=16) (k:=1) (new:=[.string s]) hlow S1.ext S1.ol Ya Ya rfl Ya Ya
 have hq1:=S1.hq
 have g2:w2.get q=_:=(k2 q hq1 (S1.ol.ne S1.g Ya)).trans S1.g
 have ob2:Own B.size w2 2 bv lb.length (lbv lb):=S1.ob.keep (Nat.le_refl _) fun b hb hv=>⟨k2 b hb (Zhf S1.ob S1.ol Ya hv),by omega⟩
 have ot2:Own B.size w2 1 tv tk.length (sv tk):=S1.ot.keep (Nat.le_refl _) fun b hb hv=>⟨k2 b hb (fun hh=>S1.dj b hh hv),by omega⟩
 refine ⟨w1,w2,_,e1,z1,e2,g2,rfl,Zl9 x2 S1.lq rfl,S1.lq,by simp;omega,by rw [Heap.Zae,if_pos rfl],?_,ZeG ob2 g2 Ya rfl,ZeG ot2 g2 Ya rfl,?_⟩
 ·rw [List.length_append,Zbb]
  exact ZeG o2 g2 Ya rfl
 ·intro b hb hv
  have:=(Zh6 S1.ot hv).2
  simp only [vblk,Option.some.injEq] at hb
  omega
theorem DS.label {B:Heap} {q:Nat} {W:Heap} {x:HdT} {hv lv bv tv:Value} {ls:List ByteArray} {lb:List (ByteArray × Nat)} {tk:List ByteArray} (S:DS B q W x hv lv bv tv ls lb tk) {low:Nat} (hlow:low≤B.size) (s:ByteArray) (i:Nat) (hn:lb.length≤100000) :
  ∃ w1 w2 w3:Heap,W.push (.cells [.string s,.int .i64 (i:Int)] 2)=w1∧w1.get W.size= .cells [.string s,.int .i64 (i:Int)] 2∧iapp low w1 2 24 bv 1 (some [.string s,.int .i64 (i:Int)])=some (.slice (some ⟨w1.size,0,none⟩) (lb.length+1) big,w2)∧w2.get q= .cells (dl x hv lv bv) 7 ∧
    w2.set q (.cells (dl x hv lv (.slice (some ⟨w1.size,0,none⟩) (lb.length+1) big)) 7)=w3∧DS B q w3 x hv lv (.slice (some ⟨w1.size,0,none⟩) (lb.length+1) big) tv ls (lb++[(s,i)]) tk∧RK W w3:=by
 obtain ⟨w1,e1,x1,hs1,z1⟩:=lay1 W (.cells [.string s,.int .i64 (i:Int)] 2)
 have S1:=S.more x1
 obtain ⟨w2,e2,o2,hs2,x2,k2⟩:=Zc2 (bytes:=24) (k:=1) (new:=[.string s,.int .i64 (i:Int)]) hlow S1.ext S1.ob Ya Ya rfl Ya Ya
 have hq1:=S1.hq
 have g2:w2.get q=_:=(k2 q hq1 (S1.ob.ne S1.g Ya)).trans S1.g
 have ol2:Own B.size w2 1 lv ls.length (sv ls):=S1.ol.keep (Nat.le_refl _) fun b hb hv=>⟨k2 b hb (Zhf S1.ol S1.ob Ya hv),by omega⟩
 have ot2:Own B.size w2 1 tv tk.length (sv tk):=S1.ot.keep (Nat.le_refl _) fun b hb hv=>⟨k2 b hb (Zhf S1.ot S1.ob Ya hv),by omega⟩
 refine ⟨w1,w2,_,e1,z1,e2,g2,rfl,⟨Zl9 x2 S1.lq rfl,S1.lq,by simp;omega,by rw [Heap.Zae,if_pos rfl],ZeG ol2 g2 Ya rfl,?_,ZeG ot2 g2 Ya rfl,S1.dj⟩,((RK.of x1).trans (RK.other S1.ob Ya Ya k2)).trans (RK.put g2 Ya)⟩
 rw [List.length_append,Zk4]
 exact ZeG o2 g2 Ya rfl
theorem DS.value {B:Heap} {q:Nat} {W:Heap} {x:HdT} {a:Option Addr} {c:Nat} {lv bv tv:Value} {ls:List ByteArray} {lb:List (ByteArray × Nat)} {tk:List ByteArray} (S:DS B q W x (.slice a x.ls.length c) lv bv tv ls lb tk) (s:Sl B 1 a x.ls.length c (sv x.ls)) :
  DV W (.agg (dl x (.slice a x.ls.length c) lv bv).toArray) ⟨x,ls,lb⟩:=by
 obtain ⟨a1,c1,rfl⟩:=S.ol.shape
 obtain ⟨a2,c2,rfl⟩:=S.ob.shape
 exact ⟨a,c,a1,c1,a2,c2,rfl,s.ext S.ext,S.ol.sl,S.ob.sl⟩
end Go.Im.Defn
namespace Go.Proofs.YtachkofbmodnnaaGreat.D2
open Go Go.Im Go.Im.Limbs Go.Im.Lexing Go.Im.Heads Go.Im.Editing Go.Im.Defn Go.Proofs Go.RowKit Hd N19 N23 R9 H2 H3 H5 H6 H7 H8 L1 E2
set_option maxRecDepth 100000
theorem Zj9 {s:ByteArray} {tk:List ByteArray} {i:Nat} {y:ByteArray} (hy:tk[i]? =some y) (h:s ∉ tk.take i) (hne:¬ s=y):s ∉ tk.take (i+1):=by
 rw [List.take_add_one,hy,List.mem_append]
 simp [h,hne]
theorem ZmT (tk:List ByteArray) (s:ByteArray) (h:Heap) {a:Option Addr} {c:Nat} (sl:Sl h 1 a tk.length c (sv tk)) (hm:tk.length≤1000000):Runs K 80 #[.slice a tk.length c,.string s] h fun r w=>h=w∧∃ x:Int,r= .int .i64 x∧(0≤x↔s ∈ tk):=by
 refine Runs.of Kok (Does.intro rfl Ye Tryz.func80 rfl ?_)
 simp +decide only [go_sem,WR,WS]
 refine Zah (α:=Nat) (fun i e w=>i≤tk.length∧e.size=19∧h=w∧e.get 0= .slice a tk.length c∧e.get 1= .string s∧e.get 7= .int .i64 ((tk.length:Nat):Int)∧e.get 8= .int .i64 (i:Int)∧s ∉ tk.take i) (fun i=>tk.length - i) 0 ?_ ?_
 ·exact ⟨Nat.zero_le _,Yc,rfl,Yc,Yc,Yc,by simp +decide only [go_sem];rfl,by simp⟩
 rintro i e w ⟨hi,hsz,hw,e0,e1,e7,e8,hni⟩ next
 subst hw
 by_cases hil:(i:Int) < ((tk.length:Nat):Int)
 ·obtain ⟨b,o,cs,rfl,q2,q3,q4⟩:=ZaN sl (i:=i) Ya
  have hy:tk[i]? =some tk[i]:=List.getElem?_eq_getElem Ya
  have c0:(0:Int)≤(i:Int):=Ya
  have i1:IntKind.i64.wrap ((i:Int)+1)=((i+1:Nat):Int):=Yd
  by_cases hs:s=tk[i]
  ·simp +decide only [go_sem,WR,WS,hsz,e0,e1,e7,e8,hil,c0,Int.toNat_natCast,q3,q4,← hs]
   have hmem:s ∈ tk:=by rw [hs];exact List.getElem_mem _
   first | exact ⟨rfl,_,rfl,iff_of_true c0 hmem⟩ | exact ⟨_,rfl,iff_of_true c0 hmem⟩ | simp [hmem,c0]
  ·simp +decide only [go_sem,WR,WS,hsz,e0,e1,e7,e8,hil,c0,Int.toNat_natCast,q3,q4,hs,i1]
   exact next (i+1) _ _ ⟨by omega,Yb,rfl,Yf,Yk,Yi,Yb,Zj9 hy hni hs⟩ Ya
 ·simp +decide only [go_sem,WR,WS,hsz,e0,e1,e7,e8,hil]
  have:¬ s ∈ tk:=by rwa [List.take_of_length_le Ya] at hni
  simp [this]
theorem ZiP (tk:List ByteArray) (s:ByteArray) (h:Heap) {a:Option Addr} {c:Nat} (sl:Sl h 1 a tk.length c (sv tk)) (hm:tk.length≤1000000):Runs K 54 #[.slice a tk.length c,.string s] h fun r w=>h=w∧r= .bool (decide (s ∈ tk)):=by
 refine Runs.of Kok (Does.intro rfl Ye Tryz.func54 rfl ?_)
 simp +decide only [go_sem,WR,WS]
 refine Zaa Kok (Nat.le_refl _) (ZmT tk s h sl hm) fun r w x hr=> ?_
 obtain ⟨hw,y,rfl,hy⟩:=hr
 subst hw
 simp +decide only [go_sem,WR,WS]
 congr 2
 exact propext hy
set_option maxHeartbeats 4000000 in
theorem Zhj (rows:List ByteArray) (h:Heap) {a:Option Addr} {c:Nat} (s:Sl h 1 a rows.length c (sv rows)) (hn:rows.length≤9223372036854775807) (hz:∀ r ∈ rows,r.size≤9223372036854775807) :
  Runs K 25 #[.slice a rows.length c] h fun r w=>∃ v,r= .tuple #[v,.int .i64 (ZaM rows).2]∧DV w v (ZaM rows).1:=by
 refine Runs.of Kok (Does.intro rfl Ye Tryz.func25 rfl ?_)
 obtain ⟨w0,e0,x0,hs0,z0⟩:=lay1 h (.cells [.string ByteArray.empty,.string ByteArray.empty,.string ByteArray.empty,.string ByteArray.empty,.slice none 0 0,.slice none 0 0,.slice none 0 0] 7)
 have j0:h.size≤h.size:=Nat.le_refl _
 have fin0:∀ (w:Heap) (C:List Value),Ext h w→∃ w',w.set h.size (.cells C 7)=w'∧w'.get h.size= .cells C 7∧w'.size=w.size∧∀ b,b≠h.size→w'.get b=w.get b:=fun w C xw=>by
  obtain ⟨w1,e1,x1,hs1,g1,k1⟩:=put1 xw j0 (.cells C 7)
  exact ⟨w1,e1,g1,hs1,k1⟩
 have zd:∀ w,DV w (.agg #[.string ByteArray.empty,.string ByteArray.empty,.string ByteArray.empty,.string ByteArray.empty,.slice none 0 0,.slice none 0 0,.slice none 0 0]) dZ:=fun w=>DV.zero w
 match rows,s,hn,hz with
 | [],s,hn,hz =>
   obtain ⟨w1,e1,g1,hs1,k1⟩:=fin0 w0 [.string ByteArray.empty,.string ByteArray.empty,.string ByteArray.empty,.string ByteArray.empty,.slice none 0 0,.slice none 0 0,.slice none 0 0] x0
   simp +decide only [go_sem,WR,WS,e0,List.length_nil,Int.natCast_zero,z0,j0,e1,g1]
   exact ⟨_,rfl,zd _⟩
 | r0::rs,s,hn,hz =>
 have hl0:(r0::rs).length=rs.length+1:=rfl
 have n0:¬ (((r0::rs).length:Nat):Int)=0:=by rw [hl0];omega
 have n1:(0:Int) < (((r0::rs).length:Nat):Int):=by rw [hl0];omega
 obtain ⟨b,o,cs,rfl,q2,q3,q4⟩:=ZaN s (i:=0) Ya
 obtain ⟨L,rfl⟩:=Zg5 r0
 rw [Nat.add_zero] at q4
 have q4':cs[o]? =some (.string (text L)):=q4
 have q3':(w0.get b).read= .cells cs 1:=by rw [x0.2 b q2];exact q3
 have hr0:=hz (text L) Yp
 obtain ⟨l,hl⟩:∃ l,l=Zai (text L):=⟨_,rfl⟩
 have hll:l.length≤9223372036854775807:=by rw [hl];exact Nat.le_trans (Zc7 _) hr0
 obtain ⟨w1,e1,x1,hs1,z1⟩:=lay1 w0 (.cells (rv l) 1)
 have x01:=x0.trans x1
 have t1:Ln w1 (.slice (some ⟨w0.size,0,none⟩) l.length big) l:=Ln.new Ya z1
 have ic:=Zfp (l:=L) (h:=w0)
 rw [← hl,e1] at ic
 clear q4
 generalize hN:(text L::rs).length=N at *
 simp +decide only [go_sem,WR,WS,e0,n0,n1,show Int.toNat 0=0 from rfl,q3',q4',ic]
 refine Zaa Kok x01.1 (Zd0 l w1 t1.tx Ya) fun r w2 x2 hr=> ?_
 obtain ⟨pa,pc,rfl,s2⟩:=hr
 have x02:=x01.trans x2
 have hms:ZaM (text L::rs)=if (hdp l).2=true then Zau (hdp l).1 rs 1 [] [] (hdp l).1.all else (dZ,0):=by rw [ZaM,← hl]
 have Gx:=Zel l
 generalize hX:hdp l=X at s2 hms Gx
 obtain ⟨x,ok⟩:=X
 simp only at s2 hms Gx
 obtain ⟨w3,e3,x3,hs3,z3⟩:=lay1 w2 (.cells [.string ByteArray.empty,.string ByteArray.empty,.string ByteArray.empty,.string ByteArray.empty,.slice none 0 0] 5)
 obtain ⟨w4,e4,x4,hs4,z4,k4⟩:=put1 x3 (Nat.le_refl _) (.cells (H2.hl x (.slice pa x.ls.length pc)) 5)
 have x04:=x02.trans x4
 have j2:h.size≤w2.size:=x02.1
 have g0:w4.get h.size=_:=((x1.trans (x2.trans x4)).2 _ Ya).trans z0
 simp only [H2.hl] at e4 z4
 cases ok with
 | false =>
   obtain ⟨w5,e5,g5,hs5,k5⟩:=fin0 w4 [.string ByteArray.empty,.string ByteArray.empty,.string ByteArray.empty,.string ByteArray.empty,.slice none 0 0,.slice none 0 0,.slice none 0 0] x04
   simp +decide only [go_sem,WR,WS,H2.hl,e3,z3,j2,e4,g0,j0,e5,g5]
   rw [hms]
   exact ⟨_,rfl,zd _⟩
 | true =>
   obtain ⟨hv,hhv⟩:∃ hv,hv=Value.slice pa x.ls.length pc:=⟨_,rfl⟩
   have hok:Zal hv=true:=by rw [hhv];rfl
   have few:=Gx.few
   have s4:=s2.ext x4
   obtain ⟨w5,e5,x5,hs5,z5⟩:=lay1 w4 (.cells [.string ByteArray.empty,.string ByteArray.empty,.string ByteArray.empty,.string ByteArray.empty,.slice none 0 0,.slice none 0 0,.slice none 0 0] 7)
   obtain ⟨w6,e6,x6,hs6,z6,k6⟩:=put1 x5 (Nat.le_refl _) (.cells (dl x hv (.slice none 0 0) (.slice none 0 0)) 7)
   have x06:=x04.trans x6
   have j4:h.size≤w4.size:=x04.1
   have nmr:=ZgS x w6 (s4.ext x6) Ya
   simp only [H2.hl,← hhv] at e4 z4 nmr
   simp only [dl] at e6
   have z46:w6.get w2.size=_:=(x6.2 _ Ya).trans z4
   simp +decide only [go_sem,WR,WS,H2.hl,← hhv,hok,e3,z3,j2,e4,z4,e5,z5,j4,e6,z46]
   refine Zaa Kok x06.1 nmr fun r w7 x7 hr=> ?_
   have z47:w7.get w2.size=_:=(x7.2 _ Ya).trans z46
   obtain ⟨w8,e8,x8,hs8,z8⟩:=lay1 w7 (.cells [.string x.nm] 1)
   have x48:=x6.trans (x7.trans x8)
   have hnl:=Zd4 x
   obtain ⟨w9,e9,o9,hs9,x9,k9⟩:=Zc2 (low:=h.size) (bytes:=16) (k:=1) (new:=[.string x.nm]) j4 x48 ((hr.ext x8).keep x6.1 fun b hb _=>⟨rfl,hb⟩) Ya Ya rfl Ya Ya
   obtain ⟨ra,rc,rfl⟩:=hr.shape
   have hall:x.all.length=x.names.length+1:=by simp [HdT.all]
   have hrq:vblk (.slice ra x.names.length rc)≠some w4.size:=by
    intro hh
    have:=(Zh6 hr hh).1
    omega
   have S9:DS w4 w4.size w9 x hv (.slice none 0 0) (.slice none 0 0) (.slice (some ⟨w8.size,0,none⟩) (x.names.length+1) big) [] [] x.all:=by
    have m7:=x7.1
    have m8:=x8.1
    refine ⟨x9,Nat.le_refl _,by omega,?_,Own.nil _ _ _,Own.nil _ _ _,?_,fun b hb=>by simp [vblk] at hb⟩
    ·rw [k9 _ Ya hrq,(x7.trans x8).2 _ Ya,z6]
    ·rw [hall]
     have:sv x.all=sv x.names++[.string x.nm]:=by rw [HdT.all,Zbb];rfl
     rw [this]
     exact o9
   have hrs:N - 1=rs.length:=by rw [← hN];rfl
   obtain ⟨ca,cc,f1,src⟩:=Sl.cut (x04.trans S9.ext) Ya s (lo:=some (.int .i64 1)) (hi:=none) (l:=1) (u:=N) rfl rfl Ya (Nat.le_refl _)
   rw [hrs] at f1
   have src':Sl h 1 ca rs.length cc (sv rs):=by
    rw [hrs,Nat.mul_one,Nat.mul_one] at src
    have e:((sv (text L::rs)).drop 1).take rs.length=sv rs:=by rw [sv,List.map_cons,List.drop_one,List.tail_cons,List.take_of_length_le Yp];rfl
    rw [e] at src
    exact src
   have hsb:h.size < w4.size:=Ya
   simp +decide only [go_sem,WR,WS,z47,e8,z8,e9,f1]
   refine Zah (α:=Nat × Value × Value × Value × List ByteArray × List (ByteArray × Nat) × List ByteArray) (fun k e W=>k.1≤rs.length∧e.size=98∧DS w4 w4.size W x hv k.2.1 k.2.2.1 k.2.2.2.1 k.2.2.2.2.1 k.2.2.2.2.2.1 k.2.2.2.2.2.2∧e.get 2= .pointer (some ⟨h.size,0,none⟩)∧e.get 6= .pointer (some ⟨w4.size,0,none⟩)∧e.get 7=k.2.2.2.1 ∧
    e.get 39= .slice ca rs.length cc∧e.get 40= .int .i64 ((rs.length:Nat):Int)∧e.get 41= .int .i64 (k.1:Int)∧Zau x rs 1 [] [] x.all=Zau x (rs.drop k.1) (k.1+1) k.2.2.2.2.1 k.2.2.2.2.2.1 k.2.2.2.2.2.2∧k.2.2.2.2.1.length≤k.1∧k.2.2.2.2.2.1.length≤k.1∧k.2.2.2.2.2.2.length≤1000+k.1)
    (fun k=>rs.length - k.1) (0,.slice none 0 0,.slice none 0 0,.slice (some ⟨w8.size,0,none⟩) (x.names.length+1) big,[],[],x.all) ?_ ?_
   ·exact ⟨Nat.zero_le _,Yc,S9,Yc,Yc,Yc,Yc,Yc,by simp +decide only [go_sem];rfl,by simp,by simp,by simp,by simp only [hall];omega⟩
   clear e9 o9 x9 k9 S9 f1 e8 z8 x8 hs8 hs9
   rintro ⟨k,lv,bv,tv,ls,lb,tk⟩ e W ⟨hk,hsz,S,g2,g6,g7,g39,g40,g41,hlin,hl1,hl2,hl3⟩ next
   simp only at hk S g7 g41 hlin hl1 hl2 hl3
   have xW:=x04.trans S.ext
   have gz:W.get h.size=_:=(S.ext.2 _ hsb).trans g0
   have hrn:rs.length≤9223372036854775806:=Ya
   by_cases hkl:(k:Int) < ((rs.length:Nat):Int)
   case neg =>
    have hke:rs.drop k=[]:=List.drop_of_length_le Ya
    rw [hke,Zau] at hlin
    have V:DV W (.agg (dl x hv lv bv).toArray) ⟨x,ls,lb⟩:=by
     have S':=S
     rw [hhv] at S' ⊢
     exact S'.value s4
    have g:=S.g
    obtain ⟨w',ew,gw,_⟩:=fin0 W (dl x hv lv bv) xW
    have V':=DV.put V gz ew
    simp only [dl] at g ew gw
    have hol:Zal lv=true:=by obtain ⟨a1,c1,hh⟩:=S.ol.shape;rw [hh];rfl
    have hob:Zal bv=true:=by obtain ⟨a1,c1,hh⟩:=S.ob.shape;rw [hh];rfl
    simp +decide only [go_sem,WR,WS,hsz,g2,g6,g7,g39,g40,g41,hkl,g,gz,j0,hok,hol,hob,ew,gw]
    rw [hms,if_pos rfl,hlin]
    exact ⟨_,rfl,V'⟩
   obtain ⟨b',o',cs',rfl,q2',q3',q4'⟩:=ZaN (src'.ext xW) (i:=k) Ya
   obtain ⟨r,hr⟩:∃ r,r=rs[k]:=⟨_,rfl⟩
   have hdr:rs.drop k=r::rs.drop (k+1):=by rw [hr];exact List.drop_eq_getElem_cons Ya
   rw [← hr] at q4'
   have hrz:=hz r (by rw [hr];simp)
   rw [hdr] at hlin
   obtain ⟨L',rfl⟩:=Zg5 r
   obtain ⟨l',hl'⟩:∃ l',l'=Zai (text L'):=⟨_,rfl⟩
   have hll':l'.length≤9223372036854775807:=by rw [hl'];exact Nat.le_trans (Zc7 _) hrz
   obtain ⟨u1,f1,y1,hs1',z1'⟩:=lay1 W (.cells (rv l') 1)
   have t1':Ln u1 (.slice (some ⟨W.size,0,none⟩) l'.length big) l':=Ln.new Ya z1'
   have ic':=Zfp (l:=L') (h:=W)
   rw [← hl',f1] at ic'
   have c0:(0:Int)≤(k:Int):=Ya
   have k1:IntKind.i64.wrap ((k:Int)+1)=((k+1:Nat):Int):=Yd
   have S1:=S.more y1
   simp +decide only [go_sem,WR,WS,hsz,g2,g6,g7,g39,g40,g41,hkl,c0,Int.toNat_natCast,q3',q4',ic']
   refine Zaa Kok (x04.trans S1.ext).1 (ZaI l' u1 t1' Ya) fun r u2 y2 hr2=> ?_
   obtain ⟨hw,tm⟩:=hr2
   have hw:=hw.symm
   subst hw
   obtain ⟨m,hm⟩:∃ m,m=trimS l':=⟨_,rfl⟩
   have hmm:trimS (Zai (text L'))=m:=by rw [hm,hl']
   rw [← hm] at tm
   have hml:m.length≤9223372036854775807:=by rw [hm];exact Nat.le_trans (ZcD l') hll'
   obtain ⟨ma,mc,rfl⟩:=tm.open
   simp +decide only [go_sem,WR,WS,hsz]
   refine Zaa Kok (x04.trans S1.ext).1 (Zhm u1 tm.tx) fun r u3 y3 hr3=> ?_
   have S3:=S1.more y3
   have gz3:u3.get h.size=_:=(S3.ext.2 _ hsb).trans g0
   have xz:Ext h u3:=x04.trans S3.ext
   obtain ⟨w',ew,gw,_⟩:=fin0 u3 [.string ByteArray.empty,.string ByteArray.empty,.string ByteArray.empty,.string ByteArray.empty,.slice none 0 0,.slice none 0 0,.slice none 0 0] xz
   rcases hr3 with ⟨hlex,rfl⟩ | ⟨xs,xa,xc,hlex,hA,hxl,rfl,sx⟩
   ·rw [ZcV (.inl (by rw [hmm,hlex];rfl))] at hlin
    simp +decide only [go_sem,WR,WS,hsz,g2,g6,g7,g39,g40,g41,gz3,j0,ew,gw,k1]
    rw [hms,if_pos rfl,hlin]
    exact ⟨_,rfl,zd _⟩
   by_cases h200:(200:Int)≤(k:Int)
   ·rw [ZcV (.inr Ya)] at hlin
    simp +decide only [go_sem,WR,WS,hsz,g2,g6,g7,g39,g40,g41,h200,gz3,j0,ew,gw,k1]
    rw [hms,if_pos rfl,hlin]
    exact ⟨_,rfl,zd _⟩
   have h512:=ZeL hlex
   have hok:¬ ((lex (trimS (Zai (text L')))).isNone=true∨200 < k+1):=by
    rw [hmm,hlex]
    simp
    omega
   simp +decide only [go_sem,WR,WS,hsz,h200]
   refine Zaa Kok xz.1 (ZmE m u3 ((tm.ext y3).tx) Ya) fun r u4 y4 hr4=> ?_
   obtain ⟨uu,rfl,_⟩:=hr4
   have S4:=S3.more y4
   have tm4:=tm.ext (y3.trans y4)
   obtain ⟨lab,hlab⟩:∃ lab,lab=(ZaO m).1:=⟨_,rfl⟩
   rw [← hlab]
   have xz4:Ext h u4:=x04.trans S4.ext
   by_cases hE:lab=E
   ·have hE':lab=⟨#[]⟩:=hE
    rw [Zde hok (by rw [hmm,← hlab];exact hE),hmm] at hlin
    have is4:=tm4.Zak
    obtain ⟨v1,v2,v3,a1,b1,a2,b2,a3,S5⟩:=S4.line (low:=h.size) j4 (runesBytes m) Ya
    have g4:=S4.g
    simp only [dl] at g4 b2 a3
    simp +decide only [go_sem,WR,WS,hsz,g2,g6,g7,g39,g40,g41,hE',g4,is4,Zb0,a1,b1,a2,b2,a3,j4,k1]
    exact next (k+1,.slice (some ⟨v1.size,0,none⟩) (ls.length+1) big,bv,tv,ls++[runesBytes m],lb,tk) _ _ ⟨by simp only;omega,Yb,S5,Yt,Yv,Y5,by simp +decide only [go_sem,hsz,g39],by simp +decide only [go_sem,hsz,g40],Yb,hlin,by simp;omega,by simp only;omega,by simp only;omega⟩ Yj
   have hE':¬ lab=⟨#[]⟩:=hE
   obtain ⟨ta,tc,rfl⟩:=S4.ot.shape
   simp +decide only [go_sem,WR,WS,hsz,g2,g6,g7,hE']
   refine Zaa Kok xz4.1 (ZiP tk lab u4 S4.ot.sl Ya) fun r u5 y5 hr5=> ?_
   obtain ⟨hw,rfl⟩:=hr5
   subst hw
   by_cases hmem:lab ∈ tk
   ·rw [ZdD hok (by rw [hmm,← hlab];exact hE) (by rw [hmm,← hlab];exact hmem)] at hlin
    have gz4:u4.get h.size=_:=(S4.ext.2 _ hsb).trans g0
    obtain ⟨w',ew,gw,_⟩:=fin0 u4 [.string ByteArray.empty,.string ByteArray.empty,.string ByteArray.empty,.string ByteArray.empty,.slice none 0 0,.slice none 0 0,.slice none 0 0] xz4
    simp +decide only [go_sem,WR,WS,hsz,g2,g6,g7,g39,g40,g41,hmem,gz4,j0,ew,gw,k1]
    rw [hms,if_pos rfl,hlin]
    exact ⟨_,rfl,zd _⟩
   rw [Zdf hok (by rw [hmm,← hlab];exact hE) (by rw [hmm,← hlab];exact hmem),hmm,← hlab] at hlin
   obtain ⟨v1,v2,a1,b1,a2,S5,r5⟩:=S4.take (low:=h.size) j4 lab Ya
   obtain ⟨v3,v4,v5,a3,b3,a4,b4,a5,S6,r6⟩:=S5.label (low:=h.size) j4 lab (k+1) Ya
   have is6:=((RK.of (y3.trans y4)).trans (r5.trans r6)).Zak tm
   obtain ⟨v6,v7,v8,a6,b6,a7,b7,a8,S7⟩:=S6.line (low:=h.size) j4 (runesBytes m) Ya
   have g5:=S5.g
   have g6':=S6.g
   simp only [dl] at g5 g6' b4 a5 b7 a8
   simp +decide only [go_sem,WR,WS,hsz,g2,g6,g7,g39,g40,g41,hmem,a1,b1,a2,g5,a3,b3,a4,b4,a5,g6',is6,Zb0,a6,b6,a7,b7,a8,j4,k1]
   exact next (k+1,.slice (some ⟨v6.size,0,none⟩) (ls.length+1) big,.slice (some ⟨v3.size,0,none⟩) (lb.length+1) big,.slice (some ⟨v1.size,0,none⟩) (tk.length+1) big,ls++[runesBytes m],lb++[(lab,k+1)],tk++[lab]) _ _ ⟨by simp only;omega,Yb,S7,Yt,Yv,Yb,by simp +decide only [go_sem,hsz,g39],by simp +decide only [go_sem,hsz,g40],Yb,hlin,by simp;omega,by simp;omega,by simp;omega⟩ Yj
end Go.Proofs.YtachkofbmodnnaaGreat.D2
