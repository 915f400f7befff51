/- Proved here: parts of the way to BEditBack (BE5 BD7 BE8 BD8 BD9); no condition beyond those that each theorem names. -/
import Derived.Test.YtachkofbmodnnaaGreatG20
import Derived.Test.YtachkofbmodnnaaGreatG21
import Derived.Test.YtachkofbmodnnaaGreatG22
set_option linter.unusedSimpArgs false
set_option linter.unusedVariables false
namespace Go.Im.Editing
open Go Go.Im Go.Im.Lexing
theorem Zks (l:List Int):(digs l).all isD=true:=by
 unfold digs
 exact List.all_takeWhile
theorem Zm5:∀ {l:List Int} {p:Nat},l.all isD=true→0 < p→frac p l < 10*p
 | [],p,_,hp=>by simp [frac];omega
 | c::l,p,h,hp=>by
   simp only [List.all_cons,Bool.and_eq_true] at h
   have hc:c.toNat - 48≤9:=by
    have:=h.1
    simp only [isD,Bool.and_eq_true,decide_eq_true_eq] at this
    omega
   have h2:(c.toNat - 48)*p≤9*p:=Nat.mul_le_mul_right _ hc
   rw [frac]
   by_cases h0:p / 10=0
   ·have:=Zjz (p:=p / 10) h.2
    omega
   ·have:=Zm5 h.2 (Nat.pos_of_ne_zero h0)
    omega
theorem ZeB {l:List Int} {n:Nat} (h:Za4 l=some n):(digs l).length≠0∧(digs l).length≤3∧(((digs l).length=l.length∧n=decI (digs l)*10000) ∨
  (1≤(l.drop ((digs l).length+1)).length∧(l.drop ((digs l).length+1)).all isD=true∧n=decI (digs l)*10000+frac 1000 (l.drop ((digs l).length+1)))):=by
 unfold Za4 at h
 split at h
 ·cases h
 ·rename_i h1
  split at h
  ·rename_i h2
   cases h
   exact ⟨by omega,by omega,.inl ⟨h2,rfl⟩⟩
  ·split at h
   ·rename_i h3
    cases h
    exact ⟨by omega,by omega,.inr ⟨h3.2.1,h3.2.2.2,rfl⟩⟩
   ·cases h
theorem Zdy {l:List Int} {n:Nat} (h:Za4 l=some n):n≤9999999:=by
 obtain ⟨h1,h2,h3⟩:=ZeB h
 have q1:=ZjD (Zks l)
 have q2:decI (digs l) < 10 ^ 3:=Nat.lt_of_lt_of_le q1 (Nat.pow_le_pow_right Ya h2)
 rcases h3 with ⟨_,rfl⟩ | ⟨_,h4,rfl⟩
 ·omega
 ·have:=Zm5 (p:=1000) h4 Ya
  omega
end Go.Im.Editing
namespace Go.Proofs.YtachkofbmodnnaaGreat.E5
open Go Go.Im Go.Im.Lexing Go.Im.Editing Go.Proofs Go.RowKit Hd E2
set_option maxRecDepth 100000
def Rd (l:List Int) (r:Value):Prop:=∃ x:Int,r= .tuple #[.int .i64 x,.bool (Za4 l).isSome]∧(∀ n,Za4 l=some n→x=(n:Int))∧0≤x∧x≤9999999
theorem Rd.no {l:List Int} (h:Za4 l=none) (x:Int) (hx:0≤x∧x≤9999999:=by first | decide | omega):Rd l (.tuple #[.int .i64 x,.bool false]):=⟨x,by rw [h];rfl,fun n hn=>by (rw [h] at hn;cases hn),hx⟩
theorem Rd.yes {l:List Int} {n:Nat} (h:Za4 l=some n):Rd l (.tuple #[.int .i64 (n:Int),.bool true]):=⟨n,by rw [h];rfl,fun m hm=>by (rw [h] at hm;cases hm;rfl),by have:=Zdy h;omega⟩
theorem Zs9 {c:Int} (h1:¬ c < 48) (h2:¬ 57 < c):isD c=true∧IntKind.i32.wrap (c - 48)=((c.toNat - 48:Nat):Int)∧IntKind.i64.wrap ((c.toNat - 48:Nat):Int)=((c.toNat - 48:Nat):Int)∧c.toNat - 48≤9:=by
 refine ⟨by simp [isD];omega,?_,?_,by omega⟩
 ·rw [wrap_i32 Ya Ya]
  omega
 ·rw [wrap_i64 Ya Ya]
theorem Zml {c:Int} (h:c < 48∨57 < c):isD c=false:=by
 simp only [isD,Bool.and_eq_false_iff,decide_eq_false_iff_not]
 omega
def PP (l:List Int) (j:Option Nat) (i n part:Nat):Prop:=match j with
 | none=>RA l i n part
 | some j=>RB' l j i n part
set_option maxHeartbeats 1000000 in
theorem Zdb (l:List Int) (h:Heap) {tv:Value} (t:Ln h tv l) (hm:l.length≤1000000):Runs K 9 #[tv] h fun r w=>w=h∧Rd l r:=by
 refine Runs.of Kok (Does.intro rfl Ye Tryz.func9 rfl ?_)
 obtain ⟨a,c,rfl⟩:=t.open
 simp +decide only [go_sem,WR,WS]
 refine Zah (α:=Nat × Option Nat × Nat × Nat) (fun k e w=>k.1≤l.length∧e.size=84∧h=w∧e.get 0= .slice a l.length c∧e.get 9= .slice a l.length c∧e.get 10= .int .i64 ((l.length:Nat):Int)∧e.get 11= .int .i64 (k.1:Int)∧e.get 4= .int .i64 (k.2.2.1:Int)∧e.get 5= .int .i64 (k.2.2.2:Int)∧e.get 6= .bool k.2.1.isSome∧PP l k.2.1 k.1 k.2.2.1 k.2.2.2) (fun k=>l.length - k.1) (0,none,0,10000) ?_ ?_
 ·exact ⟨Nat.zero_le _,Yc,rfl,Yc,Yc,Yc,by simp +decide only [go_sem];rfl,by simp +decide only [go_sem];rfl,by simp +decide only [go_sem];rfl,by simp +decide only [go_sem];rfl,Zp6 l⟩
 rintro ⟨i,j,n,part⟩ e w ⟨hk,hsz,hw,e0,e9,e10,e11,e4,e5,e6,hp⟩ next
 subst hw
 simp only at hk e11 e4 e5 e6 hp
 by_cases hil:(i:Int) < ((l.length:Nat):Int)
 case neg =>
  have hie:i=l.length:=Ya
  cases j with
  | none =>
    have hn:=Zp8 hp
    have i1:IntKind.i64.wrap ((n:Int)*10000)=((n*10000:Nat):Int):=Yd
    have hr:=Zsf hp hie
    by_cases h0:(0:Int) < ((l.length:Nat):Int)
    ·rw [if_neg (by intro hh;subst hh;simp at h0)] at hr
     simp +decide only [go_sem,WR,WS,hsz,e0,e9,e10,e11,e4,e5,e6,hil,i1,h0,Option.isSome_none]
     exact Rd.yes hr
    ·have:l=[]:=List.eq_nil_of_length_eq_zero Ya
     rw [if_pos this] at hr
     simp +decide only [go_sem,WR,WS,hsz,e0,e9,e10,e11,e4,e5,e6,hil,i1,h0,Option.isSome_none]
     exact Rd.no hr _
  | some j =>
    have hr:=Zse hp hie
    obtain ⟨g1,g2,g3,g4,g5,_⟩:=hp
    have h0:(0:Int) < ((l.length:Nat):Int):=Ya
    simp +decide only [go_sem,WR,WS,hsz,e0,e9,e10,e11,e4,e5,e6,hil,h0,Option.isSome_some]
    exact Rd.yes hr
 obtain ⟨x,hx⟩:∃ x,l[i]? =some x:=⟨_,List.getElem?_eq_getElem Ya⟩
 obtain ⟨b,o,cs,hq,q2,q3,q4⟩:=t.one hx
 cases hq
 have j0:(0:Int)≤(i:Int):=Ya
 have j1:IntKind.i64.wrap ((i:Int)+1)=((i+1:Nat):Int):=Yd
 have j2:IntKind.i64.wrap (((l.length:Nat):Int) - 1)=((l.length:Nat):Int) - 1:=YX
 by_cases h48:x < 48
 ·have hnd:=Zml (.inl h48)
  by_cases h46:x=46
  ·cases j with
   | some j =>
     simp +decide only [go_sem,WR,WS,hsz,e0,e9,e10,e11,e4,e5,e6,hil,j0,Int.toNat_natCast,q3,q4,h46,Option.isSome_some]
     exact Rd.no (Zl7 hp hx hnd) _
   | none =>
     subst h46
     have hn:=Zp8 hp
     have i1:IntKind.i64.wrap ((n:Int)*10000)=((n*10000:Nat):Int):=Yd
     by_cases hi0:(0:Int) < (i:Int)
     case neg =>
      simp +decide only [go_sem,WR,WS,hsz,e0,e9,e10,e11,e4,e5,e6,hil,j0,Int.toNat_natCast,q3,q4,hi0,Option.isSome_none]
      exact Rd.no (Zj1 hp hx hnd Ya) _
     by_cases hi1:(i:Int) < ((l.length:Nat):Int) - 1
     case neg =>
      simp +decide only [go_sem,WR,WS,hsz,e0,e9,e10,e11,e4,e5,e6,hil,j0,Int.toNat_natCast,q3,q4,hi0,j2,hi1,Option.isSome_none]
      exact Rd.no (Zj1 hp hx hnd Ya) _
     simp +decide only [go_sem,WR,WS,hsz,e0,e9,e10,e11,e4,e5,e6,hil,j0,j1,Int.toNat_natCast,q3,q4,hi0,j2,hi1,i1,Option.isSome_none]
     exact next (i+1,some i,n*10000,1000) _ _ ⟨by simp only;omega,Yb,rfl,Yf,Yr,YA,Yb,Yb,by simp +decide only [go_sem,hsz];rfl,by simp +decide only [go_sem,hsz,Option.isSome_some],Zn9 hp hx Ya Ya⟩ Yj
  ·cases j with
   | some j =>
     simp +decide only [go_sem,WR,WS,hsz,e0,e9,e10,e11,e4,e5,e6,hil,j0,Int.toNat_natCast,q3,q4,h46,h48,Option.isSome_some]
     exact Rd.no (Zl7 hp hx hnd) _
   | none =>
     simp +decide only [go_sem,WR,WS,hsz,e0,e9,e10,e11,e4,e5,e6,hil,j0,Int.toNat_natCast,q3,q4,h46,h48,Option.isSome_none]
     exact Rd.no (Zj1 hp hx hnd (fun hh=>h46 hh.1)) _
 have h46:¬ x=46:=Ya
 by_cases h57:57 < x
 ·have hnd:=Zml (.inr h57)
  cases j with
  | some j =>
    simp +decide only [go_sem,WR,WS,hsz,e0,e9,e10,e11,e4,e5,e6,hil,j0,Int.toNat_natCast,q3,q4,h46,h48,h57,Option.isSome_some]
    exact Rd.no (Zl7 hp hx hnd) _
  | none =>
    simp +decide only [go_sem,WR,WS,hsz,e0,e9,e10,e11,e4,e5,e6,hil,j0,Int.toNat_natCast,q3,q4,h46,h48,h57,Option.isSome_none]
    exact Rd.no (Zj1 hp hx hnd (fun hh=>h46 hh.1)) _
 obtain ⟨d1,d2,d3,d4⟩:=Zs9 h48 h57
 obtain ⟨d,hd⟩:∃ d,d=x.toNat - 48:=⟨_,rfl⟩
 cases j with
 | none =>
   have hn:=Zp8 hp
   by_cases h2:(2:Int) < (i:Int)
   ·simp +decide only [go_sem,WR,WS,hsz,e0,e9,e10,e11,e4,e5,e6,hil,j0,Int.toNat_natCast,q3,q4,h46,h48,h57,h2,Option.isSome_none]
    exact Rd.no (Zp7 hp hx d1 Ya) _
   have hnx:=Zoa hp hx d1 Ya
   rw [← hd] at d2 d3 d4 hnx
   have i1:IntKind.i64.wrap (10*(n:Int))=((10*n:Nat):Int):=Yd
   have i2:IntKind.i64.wrap (((10*n:Nat):Int)+((d:Nat):Int))=((10*n+d:Nat):Int):=Yd
   simp +decide only [go_sem,WR,WS,hsz,e0,e9,e10,e11,e4,e5,e6,hil,j0,j1,Int.toNat_natCast,q3,q4,h46,h48,h57,h2,d2,d3,i1,i2,Option.isSome_none]
   exact next (i+1,none,10*n+d,10000) _ _ ⟨by simp only;omega,Yb,rfl,Yf,Yr,YA,Yb,Yb,by simp +decide only [go_sem,hsz,e5,hp.2.2.2.2],Ym,hnx⟩ Yj
 | some j =>
   have hn:=ZuJ hp
   by_cases hp0:((part:Nat):Int)=0
   ·have hp0':part=0:=by omega
    subst hp0'
    simp +decide only [go_sem,WR,WS,hsz,e0,e9,e10,e11,e4,e5,e6,hil,j0,Int.toNat_natCast,q3,q4,h46,h48,h57,hp0,Option.isSome_some]
    exact Rd.no (Zp5 hp hx) _
   have hnx:=Zn8 hp hx d1 Ya
   rw [← hd] at d2 d3 d4 hnx
   have hmul:d*part≤9*1000:=Nat.mul_le_mul d4 hn.2
   have i1:IntKind.i64.wrap (((d:Nat):Int)*((part:Nat):Int))=((d*part:Nat):Int):=by rw [← Int.natCast_mul,wrap_i64 Ya Ya]
   have i2:IntKind.i64.wrap (((n:Nat):Int)+((d*part:Nat):Int))=((n+d*part:Nat):Int):=Yd
   have ten:(10:Int)≠0:=YI
   have i3:IntKind.i64.wrap (((part:Nat):Int).tdiv 10)=((part / 10:Nat):Int):=by
    have:((part:Nat):Int).tdiv 10=((part / 10:Nat):Int):=by rw [Int.tdiv_eq_ediv_of_nonneg Ya];omega
    rw [this,wrap_i64 Ya Ya]
   simp +decide only [go_sem,WR,WS,hsz,e0,e9,e10,e11,e4,e5,e6,hil,j0,j1,Int.toNat_natCast,q3,q4,h46,h48,h57,hp0,d2,d3,i1,i2,ten,i3,Option.isSome_some]
   exact next (i+1,some j,n+d*part,part / 10) _ _ ⟨by simp only;omega,Yb,rfl,Yf,Yr,YA,Yb,Yb,Yb,Ym,hnx⟩ Yj
end Go.Proofs.YtachkofbmodnnaaGreat.E5
namespace Go.Im.Editing
open Go Go.Im Go.Im.Lexing Go.Im.Heads Go.Im.Defn Go.Proofs.YtachkofbmodnnaaGreat.H4
def Zfb (n:Nat):Nat:=if n%10000=0 then 10000 else if n%1000=0 then 1000 else if n%100=0 then 100 else if n%10=0 then 10 else 1
def Zgj (n:Nat) (l:List Int):Option ByteArray:=if n=0 then (if (hdp l).2=true then some (txtB (hdp l).1) else none) else if (lex l).isSome=true then some (runesBytes l) else none
abbrev Rows:=List (Nat × ByteArray)
def less (n:Nat) (r:Rows):Rows:=r.filter fun p=>decide (p.1 < n)
def more (n:Nat) (r:Rows):Rows:=r.filter fun p=>decide (n < p.1)
def has (n:Nat) (r:Rows):Bool:=r.any fun p=>decide (p.1=n)
def Rise (r:Rows):Prop:=r.Pairwise fun p q=>p.1 < q.1
def setS (x:EdT) (n:Nat) (l:List Int):Option EdT:=match Zgj n l with
 | none=>none
 | some s=>if has n x.rows=false∧200 < x.rows.length then none else some ⟨less n x.rows++(n,s)::more n x.rows,min (n+Zfb n) 9999999⟩
def Zgx (p:Nat × ByteArray):ByteArray:=text (91::(numT p.1++([93,32]++p.2.data.toList)))
def Zcc (r:Rows) (a b:Int):List ByteArray:=(r.filter fun p=>decide (a≤(p.1:Int)∧(p.1:Int)≤b)).map Zgx
def Zgo (x:EdT) (n:Nat):Option EdT:=if n=0∨has n x.rows=false then none else some ⟨less n x.rows++more n x.rows,n⟩
def cmdS (x:EdT) (l tx:List Int):Option (List ByteArray × EdT):=match Za4 l with
 | some n=>if tx=[] then some ([],{ x with nx:=n }) else (setS x n tx).map fun y=>([],y)
 | none=>if l=[]∨tx≠[] then none
   else if l.head? =some 9109 then (if l.length=1 then some (Zcc x.rows 0 9999999,x) else (Za4 (l.drop 1)).map fun (n:Nat)=>(Zcc x.rows (n:Int) 9999999,x))
   else if l.getLast? =some 9109 then (Za4 l.dropLast).map fun (n:Nat)=>(Zcc x.rows (n:Int) (n:Int),{ x with nx:=n })
   else if l.head? =some 8710 then (Za4 (l.drop 1)).bind fun n=>(Zgo x n).map fun y=>([],y)
   else none
def idx (l:List Int) (c:Int):Option Nat:=l.findIdx? fun d=>decide (d=c)
def doS (x:EdT) (l:List Int):List ByteArray × Bool × Int × EdT :=
 let m:=(Zb5 l).1
 if m=[] then ([],(Zb5 l).2,0,x)
 else if m.head? =some 91 then match (idx m 93).bind fun i=>cmdS x (trimS ((m.take i).drop 1)) (trimS (m.drop (i+1))) with
  | some (out,y)=>(out,(Zb5 l).2,0,y)
  | none=>([],false,28,x)
 else match setS x x.nx m with
  | some y=>([],(Zb5 l).2,0,y)
  | none=>([],false,28,x)
theorem ZmC {n:Nat} {r:Rows} {p:Nat × ByteArray} (h:p ∈ less n r):p.1 < n:=by simpa using (List.mem_filter.1 h).2
theorem Zjd {n:Nat} {r:Rows} {p:Nat × ByteArray} (h:p ∈ more n r):n < p.1:=by simpa using (List.mem_filter.1 h).2
theorem Zj8 {n:Nat}:∀ {r:Rows},(∀ p ∈ r,n < p.1)→more n r=r∧less n r=[]∧has n r=false:=by
 intro r h
 refine ⟨List.filter_eq_self.2 fun p hp=>by simpa using h p hp,List.filter_eq_nil_iff.2 fun p hp=>by have:=h p hp;simp;omega,?_⟩
 simp only [has,List.any_eq_false]
 intro p hp
 have:=h p hp
 simp
 omega
theorem ZbU {n:Nat}:∀ {r:Rows},Rise r→(has n r=false∧r=less n r++more n r)∨(has n r=true∧∃ t,r=less n r++(n,t)::more n r)
 | [],_=> .inl ⟨rfl,rfl⟩
 | p::r,h=>by
   have hp:=List.pairwise_cons.1 h
   by_cases c1:p.1 < n
   ·have e1:less n (p::r)=p::less n r:=by simp [less,c1]
    have e2:more n (p::r)=more n r:=by simp [more,show ¬ n < p.1 by omega]
    have e3:has n (p::r)=has n r:=by simp [has,show ¬ p.1=n by omega]
    rw [e1,e2,e3]
    rcases ZbU hp.2 with ⟨a,b⟩ | ⟨a,t,b⟩
    ·exact .inl ⟨a,by rw [List.cons_append,← b]⟩
    ·exact .inr ⟨a,t,by rw [List.cons_append,← b]⟩
   ·by_cases c2:p.1=n
    ·obtain ⟨a,b,c⟩:=Zj8 (n:=n) (r:=r) fun q hq=>by have:=hp.1 q hq;omega
     refine .inr ⟨by simp [has,c2],p.2,?_⟩
     have e1:less n (p::r)=[]:=by rw [less,List.filter_cons_of_neg (by simpa using c1)];exact b
     have e2:more n (p::r)=r:=by rw [more,List.filter_cons_of_neg Yl];exact a
     rw [e1,e2,← c2]
     rfl
    ·obtain ⟨a,b,c⟩:=Zj8 (n:=n) (r:=p::r) fun q hq=>by
      rcases List.mem_cons.1 hq with rfl | hq
      ·omega
      ·have:=hp.1 q hq;omega
     exact .inl ⟨c,by rw [a,b];rfl⟩
theorem Zn2 {n:Nat} {s:ByteArray} {r:Rows} (h:Rise r):Rise (less n r++(n,s)::more n r):=by
 refine List.pairwise_append.2 ⟨h.filter _,List.pairwise_cons.2 ⟨fun q hq=>Zjd hq,h.filter _⟩,fun p hp q hq=> ?_⟩
 have h1:=ZmC hp
 rcases List.mem_cons.1 hq with rfl | hq
 ·exact h1
 ·have:=Zjd hq;omega
theorem Zl2 {n:Nat} {r:Rows} (h:Rise r):Rise (less n r++more n r) :=
 List.pairwise_append.2 ⟨h.filter _,h.filter _,fun p hp q hq=>by have:=ZmC hp;have:=Zjd hq;omega⟩
theorem ZmB {n i:Nat} {r:Rows} (h1:∀ (k:Nat) (p:Nat × ByteArray),k < i→r[k]? =some p→p.1 < n) (h2:∀ (k:Nat) (p:Nat × ByteArray),i≤k→r[k]? =some p→n≤p.1):less n r=r.take i:=by
 have e:r=r.take i++r.drop i:=(List.take_append_drop i r).symm
 have a1:(r.take i).filter (fun p=>decide (p.1 < n))=r.take i:=List.filter_eq_self.2 fun p hp=>by
  obtain ⟨k,hk⟩:=List.getElem?_of_mem hp
  rw [List.getElem?_take] at hk
  split at hk
  ·rename_i hki
   simpa using h1 k p hki hk
  ·cases hk
 have a2:(r.drop i).filter (fun p=>decide (p.1 < n))=[]:=List.filter_eq_nil_iff.2 fun p hp=>by
  obtain ⟨k,hk⟩:=List.getElem?_of_mem hp
  rw [List.getElem?_drop] at hk
  have:=h2 _ p Ya hk
  simp
  omega
 rw [less]
 conv=>lhs;rw [e]
 rw [List.filter_append,a1,a2,List.append_nil]
theorem ZpZ {n:Nat} {s:ByteArray} {r:Rows} (h:Rise r):(less n r++(n,s)::more n r).length=if has n r=true then r.length else r.length+1:=by
 rcases ZbU (n:=n) h with ⟨a,b⟩ | ⟨a,t,b⟩
 ·rw [if_neg (by simp [a])]
  have:=congrArg List.length b
  simp at this ⊢
  omega
 ·rw [if_pos a]
  have:=congrArg List.length b
  simp at this ⊢
  omega
theorem ZoH {n:Nat} {r:Rows} (h:Rise r):(less n r++more n r).length≤r.length:=by
 rcases ZbU (n:=n) h with ⟨a,b⟩ | ⟨a,t,b⟩
 ·have:=congrArg List.length b
  simp at this ⊢
  omega
 ·have:=congrArg List.length b
  simp at this ⊢
  omega
theorem Zcg {n:Nat} {r:Rows}:has n r=true↔∃ t,(n,t) ∈ r:=by
 simp only [has,List.any_eq_true,decide_eq_true_eq]
 constructor
 ·rintro ⟨⟨a,t⟩,h1,h2⟩
  exact ⟨t,by simp only at h2;rw [← h2];exact h1⟩
 ·rintro ⟨t,h⟩
  exact ⟨(n,t),h,rfl⟩
theorem ZlO {r:Rows} {i:Nat} {p:Nat × ByteArray} (h:r[i]? =some p) (a b:Int):Zcc (r.take (i+1)) a b=Zcc (r.take i) a b++if a≤(p.1:Int)∧(p.1:Int)≤b then [Zgx p] else []:=by
 simp only [Zcc]
 rw [List.take_add_one,h,List.filter_append,List.map_append]
 congr 1
 by_cases hc:a≤(p.1:Int)∧(p.1:Int)≤b
 ·simp [hc]
 ·simp only [if_neg hc]
  simp [hc]
theorem ZnZ (r:Rows) (a b:Int):(Zcc r a b).length≤r.length:=by
 rw [Zcc,List.length_map]
 exact List.length_filter_le _ _
theorem Zpr:∀ {l:List Int} {i:Nat} {c:Int},l[i]? =some c→c ∉ l.take i→idx l c=some i
 | [],i,c,h,_=>by simp at h
 | d::l,0,c,h,_=>by
   simp only [List.getElem?_cons_zero,Option.some.injEq] at h
   simp [idx,List.findIdx?_cons,h]
 | d::l,i+1,c,h,hn=>by
   simp only [List.take_succ_cons,List.mem_cons,not_or] at hn
   have:=Zpr (l:=l) (i:=i) (c:=c) YO hn.2
   unfold idx at this ⊢
   have hd:¬ d=c:=fun e=>hn.1 e.symm
   simp [List.findIdx?_cons,hd,this]
theorem ZsM {l:List Int} {c:Int} (h:c ∉ l):idx l c=none:=by
 simp only [idx,List.findIdx?_eq_none_iff,decide_eq_false_iff_not]
 intro x hx e
 exact h (e ▸ hx)
theorem Zpq:∀ {l:List Int} {i:Nat} {c:Int},idx l c=some i→l[i]? =some c
 | [],i,c,h=>by simp [idx] at h
 | d::l,i,c,h=>by
   unfold idx at h
   rw [List.findIdx?_cons] at h
   by_cases hd:d=c
   ·simp [hd] at h
    rw [← h,hd]
    rfl
   ·simp only [decide_eq_true_eq,hd,if_false] at h
    obtain ⟨j,hj,rfl⟩:=Option.map_eq_some_iff.1 h
    simpa using Zpq (l:=l) (i:=j) (c:=c) hj
def ZnH (n s:Nat):Prop:=(s=10000∨s=1000∨s=100∨s=10∨s=1)∧(s < 10000→n%10000≠0)∧(s < 1000→n%1000≠0)∧(s < 100→n%100≠0)∧(s < 10→n%10≠0)
theorem ZlD (n:Nat):ZnH n 10000:=⟨.inl rfl,by omega,by omega,by omega,by omega⟩
theorem step_end {n s:Nat} (I:ZnH n s) (h:n%s=0):s=Zfb n:=by
 obtain ⟨hs,h1,h2,h3,h4⟩:=I
 unfold Zfb
 rcases hs with rfl | rfl | rfl | rfl | rfl
 ·rw [if_pos h]
 ·rw [if_neg (h1 Ya),if_pos h]
 ·rw [if_neg (h1 Ya),if_neg (h2 Ya),if_pos h]
 ·rw [if_neg (h1 Ya),if_neg (h2 Ya),if_neg (h3 Ya),if_pos h]
 ·rw [if_neg (h1 Ya),if_neg (h2 Ya),if_neg (h3 Ya),if_neg (h4 Ya)]
theorem ZlE {n s:Nat} (I:ZnH n s) (h:n%s≠0):ZnH n (s / 10)∧s / 10 < s:=by
 obtain ⟨hs,h1,h2,h3,h4⟩:=I
 rcases hs with rfl | rfl | rfl | rfl | rfl
 ·exact ⟨⟨by omega,fun _=>h,by omega,by omega,by omega⟩,by omega⟩
 ·exact ⟨⟨by omega,fun _=>h1 Ya,fun _=>h,by omega,by omega⟩,by omega⟩
 ·exact ⟨⟨by omega,fun _=>h1 Ya,fun _=>h2 Ya,fun _=>h,by omega⟩,by omega⟩
 ·exact ⟨⟨by omega,fun _=>h1 Ya,fun _=>h2 Ya,fun _=>h3 Ya,fun _=>h⟩,by omega⟩
 ·omega
theorem ZlF (n:Nat):1≤Zfb n∧Zfb n≤10000:=by
 unfold Zfb
 repeat' split
 all_goals omega
theorem ZkO {l:List Int} {n:Nat} (h:Za4 l=some n):∃ c,l.head? =some c∧isD c=true:=by
 obtain ⟨h1,_,_⟩:=ZeB h
 cases l with
 | nil=>exact absurd rfl h1
 | cons c l =>
   refine ⟨c,rfl,?_⟩
   cases hc:isD c with
   | true=>rfl
   | false=>simp [digs,hc] at h1
theorem ZkA {l:List Int} (h:l.all isD=true) (h0:1≤l.length):∃ c,l.getLast? =some c∧isD c=true:=by
 cases hl:l.getLast? with
 | none=>rw [List.getLast?_eq_none_iff] at hl;subst hl;simp at h0
 | some c=>exact ⟨c,rfl,List.all_eq_true.1 h c (List.mem_of_getLast? hl)⟩
theorem Zl5 {l:List Int} {n:Nat} (h:Za4 l=some n):∃ c,l.getLast? =some c∧isD c=true:=by
 obtain ⟨h1,_,h3⟩:=ZeB h
 rcases h3 with ⟨h3,_⟩ | ⟨h3,h4,_⟩
 ·have e:digs l=l:=by
   have:=Zdt (p:=isD) l
   have e2:(l.takeWhile isD).length=l.length:=h3
   rw [e2,List.take_length] at this
   exact this.symm
  have:=Zks l
  rw [e] at this h1
  exact ZkA this Ya
 ·obtain ⟨c,hc,hd⟩:=ZkA h4 h3
  rw [List.getLast?_drop] at hc
  split at hc
  ·cases hc
  ·exact ⟨c,hc,hd⟩
theorem Zna (i:Int):(Utf8.encode i).size≤4:=by
 unfold Utf8.encode
 simp only
 repeat' split
 all_goals simp [ByteArray.size]
theorem fold_size (ns:List Int):∀ s:ByteArray,(ns.foldl (fun r n=>r++Utf8.encode n) s).size≤s.size+4*ns.length:=by
 induction ns with
 | nil=>intro s;simp
 | cons n ns ih =>
   intro s
   have h1:=ih (s++Utf8.encode n)
   have h2:=Zna n
   rw [ByteArray.size_append] at h1
   simp only [List.foldl_cons,List.length_cons]
   omega
theorem ZjW (l:List Int):(runesBytes l).size≤4*l.length:=by
 have:=fold_size l ByteArray.empty
 have e:ByteArray.empty.size=0:=rfl
 rw [e] at this
 unfold runesBytes
 omega
structure Inv (x:EdT):Prop where
 rise:Rise x.rows
 zero:has 0 x.rows=true
 few:x.rows.length≤201
 nums:∀ p ∈ x.rows,p.1≤9999999
 sizes:∀ p ∈ x.rows,p.2.size≤100000
 next:x.nx≤9999999
theorem Zk2 {n:Nat} {l:List Int} {s:ByteArray} (h:Zgj n l=some s):s.size≤100000:=by
 unfold Zgj at h
 split at h
 ·split at h
  ·cases h
   exact Go.Proofs.YtachkofbmodnnaaGreat.D6.ZjL (Zel l)
  ·cases h
 ·split at h
  ·rename_i hl
   cases h
   obtain ⟨ts,ht⟩:=Option.isSome_iff_exists.1 hl
   have:=ZeL ht
   have:=ZjW l
   omega
  ·cases h
theorem ZlR {x:EdT} (I:Inv x) {n:Nat} (hn:n≤9999999) {l:List Int} {y:EdT} (h:setS x n l=some y):Inv y:=by
 unfold setS at h
 split at h
 ·cases h
 ·rename_i s hs
  split at h
  ·cases h
  ·rename_i hc
   cases h
   have mem:∀ p,p ∈ less n x.rows++(n,s)::more n x.rows→p=(n,s)∨p ∈ x.rows:=by
    intro p hp
    rcases List.mem_append.1 hp with hp | hp
    ·exact .inr (List.mem_filter.1 hp).1
    ·rcases List.mem_cons.1 hp with rfl | hp
     ·exact .inl rfl
     ·exact .inr (List.mem_filter.1 hp).1
   refine ⟨Zn2 I.rise,?_,?_,?_,?_,?_⟩
   ·by_cases h0:n=0
    ·exact Zcg.2 ⟨s,by rw [h0];simp⟩
    ·obtain ⟨t,ht⟩:=Zcg.1 I.zero
     refine Zcg.2 ⟨t,List.mem_append_left _ (List.mem_filter.2 ⟨ht,by simp;omega⟩)⟩
   ·simp only
    rw [ZpZ I.rise]
    have:=I.few
    split
    ·exact this
    ·rename_i hh
     have:¬ 200 < x.rows.length:=fun h2=>hc ⟨by simpa using hh,h2⟩
     omega
   ·intro p hp
    rcases mem p hp with rfl | hp
    ·exact hn
    ·exact I.nums p hp
   ·intro p hp
    rcases mem p hp with rfl | hp
    ·exact Zk2 hs
    ·exact I.sizes p hp
   ·exact Nat.min_le_right _ _
theorem ZoI {x:EdT} (I:Inv x) {n:Nat} (hn:n≤9999999) {y:EdT} (h:Zgo x n=some y):Inv y:=by
 unfold Zgo at h
 split at h
 ·cases h
 ·rename_i hc
  cases h
  have mem:∀ p,p ∈ less n x.rows++more n x.rows→p ∈ x.rows:=by
   intro p hp
   rcases List.mem_append.1 hp with hp | hp<;>exact (List.mem_filter.1 hp).1
  obtain ⟨t,ht⟩:=Zcg.1 I.zero
  have h0:¬ n=0:=fun h=>hc (.inl h)
  exact ⟨Zl2 I.rise,Zcg.2 ⟨t,List.mem_append_left _ (List.mem_filter.2 ⟨ht,by simp;omega⟩)⟩,Nat.le_trans (ZoH I.rise) I.few,fun p hp=>I.nums p (mem p hp),fun p hp=>I.sizes p (mem p hp),hn⟩
theorem Inv.at {x:EdT} (I:Inv x) {n:Nat} (hn:n≤9999999):Inv { x with nx:=n }:=⟨I.rise,I.zero,I.few,I.nums,I.sizes,hn⟩
theorem Zq6 {x:EdT} (I:Inv x) {l tx:List Int} {out:List ByteArray} {y:EdT} (h:cmdS x l tx=some (out,y)):Inv y:=by
 unfold cmdS at h
 split at h
 ·rename_i n hn
  split at h
  ·cases h
   exact I.at (Zdy hn)
  ·obtain ⟨z,hz,he⟩:=Option.map_eq_some_iff.1 h
   cases he
   exact ZlR I (Zdy hn) hz
 ·split at h
  ·cases h
  ·split at h
   ·split at h
    ·cases h
     exact I
    ·obtain ⟨z,hz,he⟩:=Option.map_eq_some_iff.1 h
     cases he
     exact I
   ·split at h
    ·obtain ⟨z,hz,he⟩:=Option.map_eq_some_iff.1 h
     cases he
     exact I.at (Zdy hz)
    ·split at h
     ·obtain ⟨n,hn,h2⟩:=Option.bind_eq_some_iff.1 h
      obtain ⟨z,hz,he⟩:=Option.map_eq_some_iff.1 h2
      cases he
      exact ZoI I (Zdy hn) hz
     ·cases h
theorem Zs7 {x:EdT} (I:Inv x) (l:List Int):Inv (doS x l).2.2.2:=by
 unfold doS
 simp only
 split
 ·exact I
 ·split
  ·split
   ·rename_i out y hy
    obtain ⟨i,_,h⟩:=Option.bind_eq_some_iff.1 hy
    exact Zq6 I h
   ·exact I
  ·split
   ·rename_i y hy
    exact ZlR I I.next hy
   ·exact I
theorem ZhB {p:Int→Bool}:∀ {l:List Int} {c:Int},(l.dropWhile p)[0]? =some c→p c=false
 | [],c,h=>by simp at h
 | d::l,c,h=>by
   cases hd:p d with
   | true=>rw [List.dropWhile_cons_of_pos hd] at h;exact ZhB h
   | false =>
     rw [List.dropWhile_cons_of_neg (by simp [hd])] at h
     simp only [List.getElem?_cons_zero,Option.some.injEq] at h
     rw [← h]
     exact hd
theorem ZdS (l:List Int):trimS (trimS l)=trimS l:=by
 obtain ⟨m,hm⟩:∃ m,m=l.dropWhile isB:=⟨_,rfl⟩
 obtain ⟨r,hr⟩:∃ r,r=trimS l:=⟨_,rfl⟩
 have hrm:r=Zb3 m:=by rw [hr,hm];rfl
 have pre:r <+: m:=by
  rw [hrm,Zb3]
  have:=List.reverse_prefix.2 (List.dropWhile_suffix isB (l:=m.reverse))
  rwa [List.reverse_reverse] at this
 have first:∀ c,r[0]? =some c→isB c=false:=by
  intro c hc
  obtain ⟨t,ht⟩:=pre
  have hl:=(List.getElem?_eq_some_iff.1 hc).1
  have:m[0]? =some c:=by rw [← ht,List.getElem?_append_left hl];exact hc
  rw [hm] at this
  exact ZhB this
 have last:0 < r.length→∀ c,r[r.length - 1]? =some c→isB c=false:=by
  intro h0 c hc
  refine ZhB (p:=isB) (l:=m.reverse) ?_
  have e:m.reverse.dropWhile isB=r.reverse:=by rw [hrm,Zb3,List.reverse_reverse]
  rw [e,List.getElem?_reverse h0]
  simpa using hc
 rw [← hr]
 have e1:r.dropWhile isB=r:=dw_stop first
 have e2:Zb3 r=r.take r.length:=Zff (Nat.le_refl _) Yp last
 rw [trimS,e1,e2,List.take_length]
theorem Zm9 (l:List Int):trimS (Zb5 l).1=(Zb5 l).1:=by
 by_cases h1:(trimS l).getLast? =some 8711
 ·by_cases h2:Zdm false (trimS l).dropLast=some false
  ·rw [ZpB h1 h2]
   exact ZdS _
  ·rw [ZpC h1 h2]
   exact ZdS _
 ·rw [ZpD h1]
  exact ZdS _
end Go.Im.Editing
namespace Go.Proofs.YtachkofbmodnnaaGreat.E3
open Go Go.Im Go.Im.Lexing Go.Im.Editing Go.Proofs Go.RowKit Hd E2
set_option maxRecDepth 100000
theorem last_at {m:List Int} {x:Int} (h:m[m.length - 1]? =some x):m.getLast? =some x:=by rw [List.getLast?_eq_getElem?];exact h
theorem ZlS {q:Bool} {D:List Int} {i:Nat} {x:Int} (h:D[i]? =some x):Zdm q (D.drop i)=if x=39 then Zdm (!q) (D.drop (i+1)) else if x=9053∧q=false then none else Zdm q (D.drop (i+1)):=by
 obtain ⟨h1,h2⟩:=List.getElem?_eq_some_iff.1 h
 rw [List.drop_eq_getElem_cons h1,h2,Zdm]
theorem ZoP (l:List Int) (h:Heap) {tv:Value} (t:Ln h tv l) (hm:l.length≤1000000):Runs K 13 #[tv] h fun r w=>w=h∧∃ v,r= .tuple #[v,.bool (Zb5 l).2]∧Ln h v (Zb5 l).1:=by
 refine Runs.of Kok (Does.intro rfl Ye Tryz.func13 rfl ?_)
 simp +decide only [go_sem,WR,WS]
 refine Zaa Kok (Nat.le_refl _) (ZaI l h t Ya) fun r w x hr=> ?_
 obtain ⟨hw,tm⟩:=hr
 have hw:=hw.symm
 subst hw
 obtain ⟨m,hm'⟩:∃ m,m=trimS l:=⟨_,rfl⟩
 rw [← hm'] at tm
 have hml:m.length≤l.length:=by rw [hm'];exact ZcD l
 obtain ⟨a,c,rfl⟩:=tm.open
 have no:m.getLast? ≠some 8711→Zb5 l=(m,false):=fun hh=>by rw [hm'] at hh ⊢;exact ZpD hh
 have no2:m.getLast? =some 8711→Zdm false m.dropLast≠some false→Zb5 l=(m,false):=fun h1 h2=>by rw [hm'] at h1 h2 ⊢;exact ZpC h1 h2
 have yes:m.getLast? =some 8711→Zdm false m.dropLast=some false→Zb5 l=(trimS m.dropLast,true):=fun h1 h2=>by rw [hm'] at h1 h2 ⊢;exact ZpB h1 h2
 by_cases h0:((m.length:Nat):Int)=0
 ·have:m=[]:=List.eq_nil_of_length_eq_zero Ya
  simp +decide only [go_sem,WR,WS,h0]
  rw [no (by rw [this];simp)]
  exact ⟨_,rfl,tm⟩
 obtain ⟨x,hx⟩:∃ x,m[m.length - 1]? =some x:=⟨_,List.getElem?_eq_getElem Ya⟩
 have hlast:=last_at hx
 obtain ⟨b,o,cs,hq,q2,q3,q4⟩:=tm.one hx
 cases hq
 have i1:IntKind.i64.wrap (((m.length:Nat):Int) - 1)=((m.length - 1:Nat):Int):=Yd
 have c0:(0:Int)≤((m.length - 1:Nat):Int):=Ya
 have c1:((m.length - 1:Nat):Int) < ((m.length:Nat):Int):=Ya
 by_cases hd:x=8711
 case neg =>
  simp +decide only [go_sem,WR,WS,h0,i1,c0,c1,Int.toNat_natCast,q3,q4,hd]
  rw [no (by rw [hlast];simp [hd])]
  exact ⟨_,rfl,tm⟩
 rw [hd] at hlast
 obtain ⟨a',c',f1,tk⟩:=tm.cut (lo:=none) (hi:=some (.int .i64 ((m.length - 1:Nat):Int))) (x:=0) (y:=m.length - 1) rfl YF (Nat.zero_le _) Ya
 rw [List.drop_zero,Nat.sub_zero,← List.dropLast_eq_take] at tk
 rw [Nat.sub_zero] at f1
 obtain ⟨D,hD⟩:∃ D,D=m.dropLast:=⟨_,rfl⟩
 rw [← hD] at tk no2 yes
 have hDl:D.length=m.length - 1:=by rw [hD];simp
 simp +decide only [go_sem,WR,WS,h0,i1,c0,c1,Int.toNat_natCast,q3,q4,hd,f1]
 refine Zah (α:=Nat × Bool) (fun k e w=>k.1≤D.length∧e.size=54∧h=w∧e.get 0= .slice (some ⟨b,o,none⟩) m.length big∧e.get 4= .bool k.2∧e.get 26= .slice a' (m.length - 1) c'∧e.get 27= .int .i64 ((m.length - 1:Nat):Int)∧e.get 28= .int .i64 (k.1:Int)∧Zdm false D=Zdm k.2 (D.drop k.1)) (fun k=>D.length - k.1) (0,false) ?_ ?_
 ·exact ⟨Nat.zero_le _,Yc,rfl,Yc,Yc,Yc,Yc,by simp +decide only [go_sem];rfl,by simp⟩
 rintro ⟨k,q⟩ e w ⟨hk,hsz,hw,e0,e4,e26,e27,e28,hsc⟩ next
 subst hw
 simp only at hk e4 e28 hsc
 by_cases hkl:(k:Int) < ((m.length - 1:Nat):Int)
 case neg =>
  have hke:k=D.length:=Ya
  rw [hke,List.drop_of_length_le (Nat.le_refl _),Zdm] at hsc
  cases q with
  | true =>
    simp +decide only [go_sem,WR,WS,hsz,e0,e4,e26,e27,e28,hkl]
    rw [no2 hlast (by rw [hsc];simp)]
    exact ⟨_,rfl,tm⟩
  | false =>
    simp +decide only [go_sem,WR,WS,hsz,e0,e4,e26,e27,e28,hkl,i1,f1]
    refine Zaa Kok (Nat.le_refl _) (ZaI D h tk Ya) fun r w x hr=> ?_
    obtain ⟨hw,tr⟩:=hr
    have hw:=hw.symm
    subst hw
    simp +decide only [go_sem,WR,WS,hsz]
    rw [yes hlast hsc]
    exact ⟨_,rfl,tr⟩
 obtain ⟨y,hy⟩:∃ y,D[k]? =some y:=⟨_,List.getElem?_eq_getElem Ya⟩
 have tk':=tk
 rw [← hDl] at tk'
 obtain ⟨b2,o2,cs2,hq,p2,p3,p4⟩:=tk'.one hy
 cases hq
 have j0:(0:Int)≤(k:Int):=Ya
 have j1:IntKind.i64.wrap ((k:Int)+1)=((k+1:Nat):Int):=Yd
 rw [ZlS hy] at hsc
 by_cases h39:y=39
 ·rw [if_pos h39] at hsc
  simp +decide only [go_sem,WR,WS,hsz,e0,e4,e26,e27,e28,hkl,j0,Int.toNat_natCast,p3,p4,h39,j1]
  exact next (k+1,!q) _ _ ⟨by simp only;omega,Yb,rfl,Yf,Yb,by simp +decide only [go_sem,hsz,e26],YG,Yb,hsc⟩ Yj
 rw [if_neg h39] at hsc
 by_cases hl:y=9053
 ·cases q with
  | false =>
    rw [if_pos ⟨hl,rfl⟩] at hsc
    simp +decide only [go_sem,WR,WS,hsz,e0,e4,e26,e27,e28,hkl,j0,Int.toNat_natCast,p3,p4,h39,hl]
    rw [no2 hlast (by rw [hsc];simp)]
    exact ⟨_,rfl,tm⟩
  | true =>
    rw [if_neg Yp] at hsc
    simp +decide only [go_sem,WR,WS,hsz,e0,e4,e26,e27,e28,hkl,j0,Int.toNat_natCast,p3,p4,h39,hl,j1]
    exact next (k+1,true) _ _ ⟨by simp only;omega,Yb,rfl,Yf,Yg,by simp +decide only [go_sem,hsz,e26],YG,Yb,hsc⟩ Yj
 ·rw [if_neg (fun hh=>hl hh.1)] at hsc
  simp +decide only [go_sem,WR,WS,hsz,e0,e4,e26,e27,e28,hkl,j0,Int.toNat_natCast,p3,p4,h39,hl,j1]
  exact next (k+1,q) _ _ ⟨by simp only;omega,Yb,rfl,Yf,Yg,by simp +decide only [go_sem,hsz,e26],YG,Yb,hsc⟩ Yj
end Go.Proofs.YtachkofbmodnnaaGreat.E3
namespace Go.Proofs.YtachkofbmodnnaaGreat.D8
open Go Go.Im Go.Im.Limbs Go.Im.Lexing Go.Im.Heads Go.Im.Editing Go.Im.Defn Go.Proofs Go.RowKit Hd H4 H5 E2 E7 D5
set_option maxRecDepth 100000
theorem ZnX (n:Nat) (h:Heap) (hn:n≤9999999):Runs K 73 #[.int .i64 (n:Int)] h fun r w=>h=w∧r= .int .i64 ((Zfb n:Nat):Int):=by
 refine Runs.of Kok (Does.intro rfl Ye Tryz.func73 rfl ?_)
 simp +decide only [go_sem,WR,WS]
 refine Zah (α:=Nat) (fun s e w=>ZnH n s∧e.size=11∧h=w∧e.get 0= .int .i64 (n:Int)∧e.get 3= .int .i64 ((s:Nat):Int)) (fun s=>s) 10000 ?_ ?_
 ·exact ⟨ZlD n,Yc,rfl,Yc,by simp +decide only [go_sem];rfl⟩
 rintro s e w ⟨I,hsz,hw,e0,e3⟩ next
 subst hw
 have s0:0 < s∧s≤10000:=by have:=I.1;omega
 have z:¬ ((s:Nat):Int)=0:=Ya
 by_cases c:n%s=0
 ·have c':((n%s:Nat):Int)=0:=by omega
  simp +decide only [go_sem,WR,WS,hsz,e0,e3,ZbD z,E7.wr,c']
  rw [Editing.step_end I c]
 ·have c':¬ ((n%s:Nat):Int)=0:=by omega
  have q:=wq (n:=s) (p:=10) Ya Ya
  have e10:((10:Nat):Int)=10:=rfl
  rw [e10] at q
  obtain ⟨J,lt⟩:=Editing.ZlE I c
  simp +decide only [go_sem,WR,WS,hsz,e0,e3,ZbD z,E7.wr,c',q]
  exact next (s / 10) _ _ ⟨J,Yb,rfl,Yf,Yb⟩ lt
theorem ZqH (l:List Int) (x:Int) (h:Heap) {tv:Value} (t:Ln h tv l) (hm:l.length≤1000000):Runs K 47 #[tv,.int .i32 x] h fun r w=>h=w∧r= .int .i64 (match idx l x with | some i=>(i:Int) | none=> -1):=by
 obtain ⟨a,c,rfl⟩:=t.open
 refine Runs.of Kok (Does.intro rfl Ye Tryz.func47 rfl ?_)
 simp +decide only [go_sem,WR,WS]
 refine Zah (α:=Nat) (fun i e w=>i≤l.length∧e.size=19∧h=w∧e.get 0= .slice a l.length c∧e.get 1= .int .i32 x∧e.get 7= .int .i64 ((l.length:Nat):Int)∧e.get 8= .int .i64 (i:Int)∧x ∉ l.take i) (fun i=>l.length - i) 0 ?_ ?_
 ·exact ⟨Nat.zero_le _,Yc,rfl,Yc,Yc,Yc,by simp +decide only [go_sem];rfl,by simp⟩
 rintro i e w ⟨hi,hsz,hw,e0,e1,e7,e8,hni⟩ next
 subst hw
 by_cases hil:(i:Int) < ((l.length:Nat):Int)
 ·have hy:l[i]? =some l[i]:=List.getElem?_eq_getElem Ya
  obtain ⟨b,o,cs,hq,q2,q3,q4⟩:=t.one hy
  cases hq
  have c0:(0:Int)≤(i:Int):=Ya
  have i1:IntKind.i64.wrap ((i:Int)+1)=((i+1:Nat):Int):=Yd
  by_cases hs:x=l[i]
  ·simp +decide only [go_sem,WR,WS,hsz,e0,e1,e7,e8,hil,c0,Int.toNat_natCast,q3,q4,← hs]
   rw [Zpr (hs ▸ hy) hni]
  ·simp +decide only [go_sem,WR,WS,hsz,e0,e1,e7,e8,hil,c0,Int.toNat_natCast,q3,q4,hs,i1]
   exact next (i+1) _ _ ⟨by omega,Yb,rfl,Yf,Yk,Yi,Yb,fun hm=>by
    rw [List.take_add_one,hy,List.mem_append] at hm
    rcases hm with hm | hm
    ·exact hni hm
    ·exact hs (by simpa using hm)⟩ Ya
 ·simp +decide only [go_sem,WR,WS,hsz,e0,e1,e7,e8,hil]
  rw [List.take_of_length_le Ya] at hni
  rw [ZsM hni]
theorem ZeU (p:Nat × ByteArray) (n:Nat) (h:Heap) (hp:p.1≤9999999) (hn:n≤9999999):Runs K 87 #[.agg #[.int .i64 (p.1:Int),.string p.2],.int .i64 (n:Int)] h fun r w=>r= .int .i64 ((p.1:Int) - (n:Int)):=by
 refine Runs.of Kok (Does.intro rfl Ye Tryz.func87 rfl ?_)
 obtain ⟨w1,e1,x1,hs1,z1⟩:=lay1 h (.cells [.int .i64 (p.1:Int),.string p.2] 2)
 have i1:IntKind.i64.wrap ((p.1:Int) - (n:Int))=(p.1:Int) - (n:Int):=YX
 simp +decide only [go_sem,WR,WS,e1,z1,i1]
theorem Zrc (rows:Editing.Rows) (n:Nat) (h:Heap) {a:Option Addr} {c:Nat} (sl:Sl h 2 a rows.length c (erv rows)) (hr:Rise rows) (hm:rows.length≤1000) (hn:n≤9999999) (hnum:∀ p ∈ rows,p.1≤9999999) :
  Runs K 86 #[.slice a rows.length c,.int .i64 (n:Int),.func (.func 87) #[] #[]] h fun r w=>r= .tuple #[.int .i64 (((less n rows).length:Nat):Int),.bool (has n rows)]:=by
 refine Runs.of Kok (Does.intro rfl Ye Tryz.func86 rfl ?_)
 simp +decide only [go_sem,WR,WS]
 refine Zah (α:=Nat × Nat) (fun k e W=>k.1≤k.2∧k.2≤rows.length∧e.size=49∧Ext h W∧e.get 0= .slice a rows.length c∧e.get 1= .int .i64 (n:Int)∧e.get 2= .func (.func 87) #[] #[]∧e.get 8= .int .i64 ((rows.length:Nat):Int) ∧
  e.get 9= .int .i64 (k.1:Int)∧e.get 10= .int .i64 (k.2:Int)∧(∀ (j:Nat) (p:Nat × ByteArray),j < k.1→rows[j]? =some p→p.1 < n)∧(∀ (j:Nat) (p:Nat × ByteArray),k.2≤j→rows[j]? =some p→n≤p.1)) (fun k=>k.2 - k.1) (0,rows.length) ?_ ?_
 ·exact ⟨Nat.zero_le _,Nat.le_refl _,Yc,Ext.refl h,Yc,Yc,Yc,Yc,by simp +decide only [go_sem];rfl,Yc,by omega,fun j p hj hp=>by have:=(List.getElem?_eq_some_iff.1 hp).1;omega⟩
 rintro ⟨lo,hi⟩ e W ⟨h1,h2,hsz,xW,e0,e1,e2,e8,e9,e10,hlo,hhi⟩ next
 simp only at h1 h2 e9 e10 hlo hhi
 by_cases hil:(lo:Int) < (hi:Int)
 ·have hlt:lo < hi:=by omega
  obtain ⟨m,hm0⟩:∃ m,m=(lo+hi) / 2:=⟨_,rfl⟩
  have i1:IntKind.i64.wrap ((lo:Int)+(hi:Int))=((lo+hi:Nat):Int):=Yd
  have sh:∀ t,Zaj Tryz.prog .shr t (.int .u64 ((lo+hi:Nat):Int)) (.int .u64 1)=some (.int .u64 (m:Int)):=fun t=>by
   have:=ishr (P:=Tryz.prog) (t:=t) (k:= .u64) (n:=lo+hi) (s:=1) Ya
   rw [hm0]
   simpa using this
  have hml:m < rows.length:=Ya
  have i2:IntKind.i64.wrap (m:Int)=(m:Int):=YX
  have i3:IntKind.i64.wrap ((m:Int)+1)=((m+1:Nat):Int):=Yd
  have c0:(0:Int)≤(m:Int):=Ya
  have c1:(m:Int) < ((rows.length:Nat):Int):=Ya
  obtain ⟨p,hp⟩:∃ p,rows[m]? =some p:=⟨_,List.getElem?_eq_getElem hml⟩
  have hpn:=hnum p (List.mem_of_getElem? hp)
  obtain ⟨b,o,cs,rfl,q2,q3,q4,q5,q6,q7⟩:=ZhV (sl.ext xW) hp
  simp +decide only [go_sem,WR,WS,hsz,e0,e1,e2,e8,e9,e10,hil,i1,w64 (show lo+hi < 18446744073709551616 by omega),sh,i2,c0,c1,Int.toNat_natCast,q3,q6,q7]
  refine Zaa Kok xW.1 (ZeU p n W hpn hn) fun r W2 x2 hr=> ?_
  subst hr
  have up:∀ (j:Nat) (q:Nat × ByteArray),rows[j]? =some q→(j < m→q.1 < p.1)∧(m < j→p.1 < q.1):=by
   intro j q hq
   obtain ⟨h3,h4⟩:=List.getElem?_eq_some_iff.1 hq
   obtain ⟨h5,h6⟩:=List.getElem?_eq_some_iff.1 hp
   have hpw:=List.pairwise_iff_getElem.1 hr
   exact ⟨fun hj=>by rw [← h4,← h6];exact hpw j m h3 h5 hj,fun hj=>by rw [← h4,← h6];exact hpw m j h5 h3 hj⟩
  by_cases c2:(p.1:Int) - (n:Int) < 0
  ·simp +decide only [go_sem,WR,WS,hsz,e9,c2,i3]
   refine next (m+1,hi) _ _ ⟨by simp only;omega,h2,Yb,xW.trans x2,Yf,Yk,Ys,Yu,Yb,YA,fun j q hj hq=> ?_,hhi⟩ Yj
   simp only at hj
   by_cases hjm:j=m
   ·subst hjm
    rw [hp] at hq
    cases hq
    omega
   ·have:=(up j q hq).1 Ya
    omega
  ·simp +decide only [go_sem,WR,WS,hsz,e9,c2]
   refine next (lo,m) _ _ ⟨by simp only;omega,by simp only;omega,Yb,xW.trans x2,Yf,Yk,Ys,Yu,Yr,Yb,hlo,fun j q hj hq=> ?_⟩ Yj
   simp only at hj
   by_cases hjm:j=m
   ·subst hjm
    rw [hp] at hq
    cases hq
    omega
   ·have:=(up j q hq).2 Ya
    omega
 ·have hk:hi=lo:=by omega
  subst hk
  have hl:=ZmB hlo hhi
  have hll:(less n rows).length=hi:=by rw [hl,List.length_take];omega
  by_cases c1:(hi:Int) < ((rows.length:Nat):Int)
  ·have c0:(0:Int)≤(hi:Int):=by omega
   obtain ⟨p,hp⟩:∃ p,rows[hi]? =some p:=⟨_,List.getElem?_eq_getElem Ya⟩
   have hpn:=hnum p (List.mem_of_getElem? hp)
   obtain ⟨b,o,cs,rfl,q2,q3,q4,q5,q6,q7⟩:=ZhV (sl.ext xW) hp
   simp +decide only [go_sem,WR,WS,hsz,e0,e1,e2,e8,e9,e10,hil,c0,c1,Int.toNat_natCast,q3,q6,q7]
   refine Zaa Kok xW.1 (ZeU p n W hpn hn) fun r W2 x2 hr=> ?_
   subst hr
   simp +decide only [go_sem,WS,hsz,e9,c1]
   rw [hll]
   have hh:has n rows=decide ((p.1:Int) - (n:Int)=0):=by
    rcases ZbU (n:=n) hr with ⟨g1,g2⟩ | ⟨g1,t,g2⟩
    ·rw [g1]
     have:¬ (p.1:Int) - (n:Int)=0:=fun e=>by
      have:has n rows=true:=Zcg.2 ⟨p.2,by have:=List.mem_of_getElem? hp;rwa [show p=(n,p.2) from Prod.ext Yj rfl] at this⟩
      rw [g1] at this
      cases this
     simp [this]
    ·rw [g1]
     rw [g2,List.getElem?_append_right Ya,hll,Nat.sub_self] at hp
     simp only [List.getElem?_cons_zero,Option.some.injEq] at hp
     subst hp
     simp
   rw [hh]
  ·simp +decide only [go_sem,WR,WS,hsz,e0,e1,e2,e8,e9,e10,hil,c1]
   rw [hll]
   have hh:has n rows=false:=by
    rcases ZbU (n:=n) hr with ⟨g1,g2⟩ | ⟨g1,t,g2⟩
    ·exact g1
    ·have:=congrArg List.length g2
     rw [List.length_append,hll] at this
     simp at this
     omega
   rw [hh]
theorem Zkl (x:EdT) (I:Inv x) (n:Nat) (hn:n≤9999999) (h:Heap) {v:Value} (V:EV h v x):Runs K 71 #[v,.int .i64 (n:Int)] h fun r w=>r= .tuple #[.int .i64 (((less n x.rows).length:Nat):Int),.bool (has n x.rows)]:=by
 obtain ⟨q,a,c,rfl,hq,hg,s⟩:=V
 refine Runs.of Kok (Does.intro rfl Ye Tryz.func71 rfl ?_)
 simp +decide only [go_sem,WR,WS,hg]
 refine Zaa Kok (Nat.le_refl _) (Zrc x.rows n h s I.rise (by have:=I.few;omega) hn I.nums) fun r w1 x1 hr=> ?_
 subst hr
 simp +decide only [go_sem,WS]
theorem ZnS (b:ByteArray):text b.data.toList=b:=rfl
theorem Zfe (x:EdT) (I:Inv x) (f t:Int) (h:Heap) {v:Value} (V:EV h v x):Runs K 74 #[v,.int .i64 f,.int .i64 t] h fun r w=>Own h.size w 1 r (Zcc x.rows f t).length (sv (Zcc x.rows f t)):=by
 obtain ⟨q,a,c,rfl,hq,hg,s⟩:=V
 refine Runs.of Kok (Does.intro rfl Ye Tryz.func74 rfl ?_)
 obtain ⟨n,hn⟩:∃ n,n=x.rows.length:=⟨_,rfl⟩
 have hfew:=I.few
 have b1:(⟨#[91]⟩:ByteArray)=text [91]:=rfl
 have b2:(⟨#[93,32]⟩:ByteArray)=text [93,32]:=rfl
 rw [← hn] at hg s
 simp +decide only [go_sem,WR,WS,hg]
 refine Zah (α:=Nat × Value) (fun i e W=>i.1≤n∧e.size=42∧Ext h W∧e.get 1= .int .i64 f∧e.get 2= .int .i64 t∧e.get 7=i.2∧Own h.size W 1 i.2 (Zcc (x.rows.take i.1) f t).length (sv (Zcc (x.rows.take i.1) f t))∧e.get 13= .slice a n c∧e.get 14= .int .i64 ((n:Nat):Int)∧e.get 15= .int .i64 (i.1:Int)) (fun i=>n - i.1) (0,.slice none 0 0) ?_ ?_
 ·exact ⟨Nat.zero_le _,Yc,Ext.refl h,Yc,Yc,Yc,Own.nil _ _ _,Yc,Yc,by simp +decide only [go_sem];rfl⟩
 rintro ⟨i,u⟩ e W ⟨hi,hsz,xW,e1,e2,e7,own,e13,e14,e15⟩ next
 simp only at hi e7 own e15
 by_cases hil:(i:Int) < ((n:Nat):Int)
 ·obtain ⟨p,hp⟩:∃ p,x.rows[i]? =some p:=⟨_,List.getElem?_eq_getElem Ya⟩
  have hpm:=List.mem_of_getElem? hp
  have hpn:=I.nums p hpm
  have hps:=I.sizes p hpm
  have sW:=s.ext xW
  rw [hn] at sW
  obtain ⟨b,o,cs,rfl,q2,q3,q4,q5,q6,q7⟩:=ZhV sW hp
  have c0:(0:Int)≤(i:Int):=Ya
  have i1:IntKind.i64.wrap ((i:Int)+1)=((i+1:Nat):Int):=Yd
  have sn:=ZlO hp f t
  obtain ⟨w2,f2,x2,hs2,z2⟩:=lay1 W (.cells [.int .i64 0,.string ByteArray.empty] 2)
  obtain ⟨w3,f3,x3,hs3,z3,k3⟩:=put1 (x2) (Nat.le_refl _) (.cells [.int .i64 (p.1:Int),.string p.2] 2)
  have jW:h.size≤W.size:=xW.1
  by_cases hc:f≤(p.1:Int)∧(p.1:Int)≤t
  ·rw [if_pos hc] at sn
   simp +decide only [go_sem,WR,WS,hsz,e1,e2,e7,e13,e14,e15,hil,c0,Int.toNat_natCast,q3,q6,q7,f2,z2,jW,f3,z3,hc.1,hc.2]
   refine Zaa Kok (xW.trans x3).1 (ZgI p.1 w3 hpn) fun r w4 x4 hr=> ?_
   subst hr
   have z4:w4.get W.size= .cells [.int .i64 (p.1:Int),.string p.2] 2:=(x4.2 _ Ya).trans z3
   have nl:=Zjc hpn
   have cat1:=Zb1 (P:=Tryz.prog) (t:=9) (a:=[91]) (b:=numT p.1) Yl
   have cat2:=Zb1 (P:=Tryz.prog) (t:=9) (a:=91::numT p.1) (b:=[93,32]) Yl
   have cat3:=Zb1 (P:=Tryz.prog) (t:=9) (a:=91::(numT p.1++[93,32])) (b:=p.2.data.toList) (by have e:p.2.data.toList.length=p.2.size:=rfl;simp only [List.length_cons,List.length_append,e];simp;omega)
   rw [List.cons_append] at cat1 cat2 cat3
   rw [List.nil_append] at cat1
   rw [ZnS,List.append_assoc] at cat3
   have cat3:Zaj Tryz.prog .add 9 (.string (text (91::(numT p.1++[93,32])))) (.string p.2)=some (.string (Zgx p)):=cat3
   have hcnt:(Zcc (x.rows.take i) f t).length≤201:=Nat.le_trans (ZnZ _ _ _) (by rw [List.length_take];omega)
   obtain ⟨w5,f5,x5,hs5,z5⟩:=lay1 w4 (.cells [.string (Zgx p)] 1)
   obtain ⟨w6,f6,o6,hs6,x6⟩:=Zbu (low:=h.size) (bytes:=16) (k:=1) (new:=[.string (Zgx p)]) (Nat.le_refl _) (xW.trans (x3.trans (x4.trans x5))) (own.ext (x3.trans (x4.trans x5))) Ya Ya rfl Ya Ya
   have es:sv (Zcc (x.rows.take (i+1)) f t)=sv (Zcc (x.rows.take i) f t)++[.string (Zgx p)]:=by rw [sn,Zbb];rfl
   have el:(Zcc (x.rows.take (i+1)) f t).length=(Zcc (x.rows.take i) f t).length+1:=by rw [sn];simp
   rw [← es,← el] at o6
   rw [← el] at f6
   simp +decide only [go_sem,WR,WS,hsz,e7,e15,b1,b2,cat1,cat2,cat3,z4,f5,z5,f6,i1]
   exact next (i+1,.slice (some ⟨w5.size,0,none⟩) (Zcc (x.rows.take (i+1)) f t).length big) _ _ ⟨by simp only;omega,Yb,x6,Yk,Ys,Yb,o6,Yw,YE,Yb⟩ Yj
  ·rw [if_neg hc,List.append_nil] at sn
   by_cases hc1:f≤(p.1:Int)
   ·have hc2:¬ (p.1:Int)≤t:=fun hh=>hc ⟨hc1,hh⟩
    simp +decide only [go_sem,WR,WS,hsz,e1,e2,e7,e13,e14,e15,hil,c0,Int.toNat_natCast,q3,q6,q7,f2,z2,jW,f3,z3,hc1,hc2,i1]
    exact next (i+1,u) _ _ ⟨by simp only;omega,Yb,xW.trans x3,Yk,Ys,Yi,by rw [sn];exact own.ext x3,Yw,YE,Yb⟩ Yj
   ·simp +decide only [go_sem,WR,WS,hsz,e1,e2,e7,e13,e14,e15,hil,c0,Int.toNat_natCast,q3,q6,q7,f2,z2,jW,f3,z3,hc1,i1]
    exact next (i+1,u) _ _ ⟨by simp only;omega,Yb,xW.trans x3,Yk,Ys,Yi,by rw [sn];exact own.ext x3,Yw,YE,Yb⟩ Yj
 ·have hin:i=n:=by omega
  subst hin
  simp +decide only [go_sem,WR,WS,hsz,e7,e14,e15,hil]
  rw [List.take_of_length_le Ya] at own
  exact own
end Go.Proofs.YtachkofbmodnnaaGreat.D8
namespace Go.Im.Editing
open Go Go.Im Go.Im.Lexing Go.Im.Heads Go.Im.Defn
def Frm (F:Nat→Prop) (w w':Heap):Prop:=w.size≤w'.size∧∀ b,b < w.size→¬ F b→w'.get b=w.get b
theorem Frm.refl (F:Nat→Prop) (w:Heap):Frm F w w:=⟨Nat.le_refl _,fun _ _ _=>rfl⟩
theorem Frm.trans {F:Nat→Prop} {a b c:Heap} (h:Frm F a b) (k:Frm F b c):Frm F a c:=⟨Nat.le_trans h.1 k.1,fun i hi hf=>(k.2 i (by have:=h.1;omega) hf).trans (h.2 i hi hf)⟩
theorem Frm.ext {F:Nat→Prop} {a b:Heap} (k:Ext a b):Frm F a b:=⟨k.1,fun i hi _=>k.2 i hi⟩
theorem Frm.set {F:Nat→Prop} {w:Heap} {b:Nat} (hb:F b) (x:Blk):Frm F w (w.set b x):=⟨Nat.le_refl _,fun i _ hf=>by rw [Heap.Zae,if_neg (by rintro rfl;exact hf hb)]⟩
def SlF (w:Heap) (F:Nat→Prop) (size:Nat) (a:Option Addr) (n c:Nat) (xs:List Value):Prop:=Sl w size a n c xs∧(0 < c→∀ ad,a=some ad→¬ F ad.block)
theorem Zja {low:Nat} {w:Heap} {size n:Nat} {a:Option Addr} {c:Nat} {xs:List Value} (H:Own low w size (.slice a n c) n xs) {F:Nat→Prop} (hF:∀ b,low≤b→¬ F b):SlF w F size a n c xs:=by
 refine ⟨H.sl,fun hc ad ha=> ?_⟩
 rcases H with ⟨h1,_⟩ | ⟨b,h1,h2,_⟩
 ·cases h1
  cases ha
 ·cases h1
  cases ha
  exact hF b h2
structure EP (low:Nat) (w:Heap) (q b:Nat) (x:EdT):Prop where
 lq:low≤q
 hq:q < w.size
 lb:low≤b
 hb:b < w.size
 ne:q≠b
 ed:w.get q= .cells [.slice (some ⟨b,0,none⟩) x.rows.length big,.int .i64 (x.nx:Int)] 2
 row:∃ cs,w.get b= .cells cs 2∧x.rows.length*2≤cs.length∧cs.take (x.rows.length*2)=erv x.rows
theorem EP.ev {low:Nat} {w:Heap} {q b:Nat} {x:EdT} (E:EP low w q b x) (h0:0 < x.rows.length):EV w (.pointer (some ⟨q,0,none⟩)) x:=by
 obtain ⟨cs,h1,h2,h3⟩:=E.row
 exact ⟨q,_,_,rfl,E.hq,E.ed,.inr (.inr ⟨b,0,cs,rfl,by simp [big],E.hb,by rw [h1];rfl,by omega,by rw [List.drop_zero,h3],.inr rfl⟩)⟩
theorem EP.keep {low:Nat} {w w':Heap} {q b:Nat} {x:EdT} (E:EP low w q b x) (hs:w.size≤w'.size) (h1:w'.get q=w.get q) (h2:w'.get b=w.get b):EP low w' q b x :=
 ⟨E.lq,by have:=E.hq;omega,E.lb,by have:=E.hb;omega,E.ne,h1.trans E.ed,by rw [h2];exact E.row⟩
theorem EP.ext {low:Nat} {w w':Heap} (k:Ext w w') {q b:Nat} {x:EdT} (E:EP low w q b x):EP low w' q b x:=E.keep k.1 (k.2 q E.hq) (k.2 b E.hb)
theorem EP.frm {low:Nat} {w w':Heap} {F:Nat→Prop} (k:Frm F w w') {q b:Nat} {x:EdT} (E:EP low w q b x) (h1:¬ F q) (h2:¬ F b):EP low w' q b x:=E.keep k.1 (k.2 q E.hq h1) (k.2 b E.hb h2)
structure EQ (w:Heap) (F:Nat→Prop) (q:Nat) (x:EdT):Prop where
 hq:q < w.size
 ed:∃ a c,w.get q= .cells [.slice a x.rows.length c,.int .i64 (x.nx:Int)] 2∧SlF w F 2 a x.rows.length c (erv x.rows)
theorem Zfs (p:Nat × ByteArray) (r:Rows):erv (p::r)= .int .i64 (p.1:Int):: .string p.2::erv r:=rfl
theorem ZqX (L M:Rows) (n:Nat) (t s:ByteArray) (D:List Value):(erv (L++(n,t)::M)++D).take (L.length*2+1)++[.string s]++(erv (L++(n,t)::M)++D).drop (L.length*2+1+1)=erv (L++(n,s)::M)++D:=by
 have hl:=ZaT L
 rw [Za7,Za7,Zfs,Zfs]
 generalize erv L=A at hl ⊢
 have e:∀ u:ByteArray,A++Value.int .i64 (n:Int)::Value.string u::erv M++D=(A++[Value.int .i64 (n:Int)])++(Value.string u::(erv M++D)):=by intro u;simp
 have e2:∀ u:ByteArray,A++Value.int .i64 (n:Int)::Value.string u::erv M++D=(A++[Value.int .i64 (n:Int),Value.string u])++(erv M++D):=by intro u;simp
 have t1:(A++Value.int .i64 (n:Int)::Value.string t::erv M++D).take (L.length*2+1)=A++[Value.int .i64 (n:Int)]:=by
  rw [e]
  exact List.take_left' (by simp [hl])
 have t2:(A++Value.int .i64 (n:Int)::Value.string t::erv M++D).drop (L.length*2+1+1)=erv M++D:=by
  rw [e2]
  exact List.drop_left' (by simp [hl])
 simp only [] at t1 t2 ⊢
 rw [t1,t2]
 simp
theorem Zm7 (L M:Rows) (p:Nat × ByteArray):(erv (L++M)).take (L.length*2)++[.int .i64 (p.1:Int),.string p.2]++(erv (L++M)).drop (L.length*2)=erv (L++p::M):=by
 rw [Za7,Za7,Zfs,List.take_left' (ZaT L),List.drop_left' (ZaT L)]
 simp
end Go.Im.Editing
namespace Go.Proofs.YtachkofbmodnnaaGreat.D9
open Go Go.Im Go.Im.Limbs Go.Im.Lexing Go.Im.Heads Go.Im.Editing Go.Im.Defn Go.Proofs Go.RowKit Hd H4 H5 E2 E7 D5 D8
set_option maxRecDepth 100000
theorem Zf5 {h:Heap} {b o n l u size:Nat} {lo hi:Option Value} {cs:List Value} (hg:h.look b= .cells cs size) (hlo:Zag 0 lo=some l) (hhi:Zag n hi=some u) (hlu:l≤u) (hn:o+u*size≤cs.length) (hz:0 < size) :
  irsl (some (.slice size)) h (some ⟨b,o,none⟩) n big lo hi none=some (.slice (some ⟨b,o+l*size,none⟩) (u - l) big):=by
 have hdiv:u≤(cs.length - o) / size:=by
  rw [Nat.le_div_iff_mul_le hz]
  omega
 have hin:Zb4 n ((cs.length - o) / size) lo hi none=some (l,u,(cs.length - o) / size):=Za6 hlo hhi hlu hdiv
 have hnb:¬ big < big:=Ya
 simp only [irsl,if_neg hnb,hg,hin]
 simp
theorem ZmK {h:Heap} {b o n l u m size:Nat} {lo hi:Value} {k:IntKind} {cs:List Value} (hg:h.look b= .cells cs size) (hlo:Zag 0 (some lo)=some l) (hhi:Zag n (some hi)=some u) (hlu:l≤u) (hum:u≤m) (hn:o+m*size≤cs.length) (hz:0 < size) (hb:m < big) :
  irsl (some (.slice size)) h (some ⟨b,o,none⟩) n big (some lo) (some hi) (some (.int k (m:Int)))=some (.slice (some ⟨b,if m=l then o else o+l*size,none⟩) (u - l) (m - l)):=by
 have hdiv:m≤(cs.length - o) / size:=by
  rw [Nat.le_div_iff_mul_le hz]
  omega
 have hmx:Zag ((cs.length - o) / size) (some (.int k (m:Int)))=some m:=YF
 have hin:Zb4 n ((cs.length - o) / size) (some lo) (some hi) (some (.int k (m:Int)))=some (l,u,m):=by
  simp only [Zb4,hlo,hhi,hmx]
  rw [if_pos ⟨hlu,hum,hdiv,fun _=>rfl⟩]
 have hnb:¬ big < big:=Ya
 simp only [irsl,if_neg hnb,hg,hin]
 simp [hb]
theorem ZqN {low:Nat} {h:Heap} {size bytes b n k:Nat} {cs new:List Value} (hg:h.get b= .cells cs size) (hl:low≤b) (hn:new.length=k*size) (ho:(n+k)*size≤cs.length) (hb:2*(n+k)*bytes≤140737488355328) (hc:n+k≤4611686018427387904) :
  ∃ h1 C,iapp low h size bytes (.slice (some ⟨b,0,none⟩) n big) k (some new)=some (.slice (some ⟨b,0,none⟩) (n+k) big,h1)∧h1.get b= .cells C size∧C.length=cs.length∧C.take ((n+k)*size)=cs.take (n*size)++new∧h1.size=h.size∧∀ c,c≠b→h1.get c=h.get c:=by
 by_cases h0:k=0
 ·subst h0
  have:new=[]:=List.eq_nil_of_length_eq_zero Ya
  subst this
  refine ⟨h,cs,?_,hg,rfl,by simp,rfl,fun _ _=>rfl⟩
  simp only [iapp]
  rw [if_neg Ya,if_pos trivial]
  rfl
 ·have h1:n*size≤cs.length:=by rw [Nat.add_mul] at ho;omega
  refine ⟨h.set b (.cells (splice cs (0+n*size) new) size),_,?_,by rw [Heap.Zae,if_pos rfl],ZcE (by rw [Nat.add_mul] at ho;omega),?_,rfl,fun c hc=>by rw [Heap.Zae,if_neg hc]⟩
  ·simp only [iapp]
   rw [if_neg Ya,if_neg h0]
   simp only [iput,hg]
   rw [if_neg Yl,if_neg (Nat.lt_irrefl _),if_pos ⟨trivial,hl⟩,if_pos Ya]
  ·rw [Nat.zero_add,splice]
   have e1:(cs.take (n*size)).length=n*size:=Yl
   rw [List.take_left' (by rw [List.length_append,e1,hn,Nat.add_mul])]
theorem row_zero:Zcb Tryz.prog 69=some (.agg #[.int .i64 0,.string ⟨#[]⟩]):=by kernel_rfl
theorem ZjC {low:Nat} {h:Heap} {b n i:Nat} {cs:List Value} (hl:low≤b) (hg:h.get b= .cells cs 2) (hn:n*2≤cs.length) (hi:i < n) (hm:n≤1000) :
  Does K low 75 #[.slice (some ⟨b,0,none⟩) n big,.int .i64 (i:Int),.int .i64 ((i+1:Nat):Int)] h fun r w=>r= .slice (some ⟨b,0,none⟩) (n - 1) big∧w.size=h.size∧(∀ c,c≠b→w.get c=h.get c) ∧
   ∃ cs',w.get b= .cells cs' 2∧cs'.length=cs.length∧cs'.take ((n - 1)*2)=cs.take (i*2)++(cs.take (n*2)).drop ((i+1)*2):=by
 refine Does.intro rfl Ye Tryz.func75 rfl ?_
 have hk:h.look b= .cells cs 2:=by rw [Heap.look,hg];rfl
 have ne:¬ (i:Int)=((i+1:Nat):Int):=Ya
 have e2:=Zf5 (h:=h) (b:=b) (o:=0) (n:=n) (l:=0) (u:=i) (lo:=none) (hi:=some (.int .i64 (i:Int))) hk rfl YF Ya Ya Ya
 have e3:=Zf5 (h:=h) (b:=b) (o:=0) (n:=n) (l:=i+1) (u:=n) (lo:=some (.int .i64 ((i+1:Nat):Int))) (hi:=none) hk YS rfl Ya Ya Ya
 have e1:=ZmK (k:= .i64) (h:=h) (b:=b) (o:=0) (n:=n) (l:=i) (u:=i+1) (m:=n) (lo:= .int .i64 (i:Int)) (hi:= .int .i64 ((i+1:Nat):Int)) hk YF YS Ya Ya Ya Ya YC
 obtain ⟨h1,C,q1,q2,q3,q4,q5,q6⟩:=ZqN (low:=low) (bytes:=24) (n:=i - 0) (k:=n - (i+1)) (new:=(cs.drop ((i+1)*2)).take ((n - (i+1))*2)) hg hl Yl Ya Ya Ya
 rw [show i - 0+(n - (i+1))=n - 1 by omega] at q1 q4
 have hk1:h1.look b= .cells C 2:=by rw [Heap.look,q2];rfl
 have e4:=Zf5 (h:=h1) (b:=b) (o:=0) (n:=n - 1) (l:=n - 1) (u:=n) (lo:=some (.int .i64 ((n - 1:Nat):Int))) (hi:=some (.int .i64 (n:Int))) hk1 YF YF Ya Ya Ya
 have e5:=Zgm (low:=low) (h:=h1) (t1:=70) (o:=0+(n - 1)*2) (n:=n - (n - 1)) (c:=big) Tryz.underlying70 X7.ZlM row_zero q2 hl Ya Ya rfl rfl Ya
 simp only [Nat.zero_add] at e3 e4 e5
 have g1:(i+1)*2+(n - (i+1))*2≤cs.length:=Ya
 simp +decide only [go_sem,WR,WS,hg,e1,e2,e3,ne,g1,q1,e4,e5]
 rw [show n - (n - 1)=1 by omega]
 obtain ⟨Z,hZ⟩:∃ Z,Z=(List.replicate 1 [Value.int IntKind.i64 0,Value.string ⟨#[]⟩]).flatten:=⟨_,rfl⟩
 have lZ:Z.length=2:=by rw [hZ];rfl
 rw [← hZ]
 have lC:(C.take ((n - 1)*2)).length=(n - 1)*2:=Yl
 refine ⟨q5,fun c hc=>by rw [if_neg hc];exact q6 c hc,_,rfl,?_,?_⟩
 ·simp only [List.length_append,List.length_drop,lC,lZ]
  omega
 ·rw [List.append_assoc,List.take_left' lC,q4,List.drop_take,show n*2 - (i+1)*2=(n - (i+1))*2 by omega]
  rfl
end Go.Proofs.YtachkofbmodnnaaGreat.D9
