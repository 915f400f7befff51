/- Proved here: parts of the way to BEditPlays (BE5 BD7 BE8); no condition beyond those that each theorem names. -/
import Derived.Test.YtachkofbmodnnaaGreatP20
import Derived.Test.YtachkofbmodnnaaGreatP21
import Derived.Test.YtachkofbmodnnaaGreatP22
set_option linter.unusedSimpArgs false
set_option linter.unusedVariables false
namespace Go.Im.Editing
open Go Go.Im Go.Im.Lexing
theorem Zkb (l:List Int):(digs l).all isD=true:=by
 unfold digs
 exact List.all_takeWhile
theorem ZmC:∀ {l:List Int} {p:Nat},l.all isD=true→0 < p→frac p l < 10*p
 | [],p,_,hp=>by simp [frac];omega
 | c::l,p,h,hp=>by
   simp only [List.all_cons,Bool.and_eq_true] at h
   have hc:c.toNat - 48≤9:=by
    have:=h.1
    simp only [isD,Bool.and_eq_true,decide_eq_true_eq] at this
    omega
   have h2:(c.toNat - 48)*p≤9*p:=Nat.mul_le_mul_right _ hc
   rw [frac]
   by_cases h0:p / 10=0
   ·have:=Zjg (p:=p / 10) h.2
    omega
   ·have:=ZmC h.2 (Nat.pos_of_ne_zero h0)
    omega
theorem Zev {l:List Int} {n:Nat} (h:ZaY l=some n):(digs l).length≠0∧(digs l).length≤3∧(((digs l).length=l.length∧n=decI (digs l)*10000) ∨
  (1≤(l.drop ((digs l).length+1)).length∧(l.drop ((digs l).length+1)).all isD=true∧n=decI (digs l)*10000+frac 1000 (l.drop ((digs l).length+1)))):=by
 unfold ZaY at h
 split at h
 ·cases h
 ·rename_i h1
  split at h
  ·rename_i h2
   cases h
   exact ⟨by omega,by omega,.inl ⟨h2,rfl⟩⟩
  ·split at h
   ·rename_i h3
    cases h
    exact ⟨by omega,by omega,.inr ⟨h3.2.1,h3.2.2.2,rfl⟩⟩
   ·cases h
theorem ZcB {l:List Int} {n:Nat} (h:ZaY l=some n):n≤9999999:=by
 obtain ⟨h1,h2,h3⟩:=Zev h
 have q1:=Zjk (Zkb l)
 have q2:decI (digs l) < 10 ^ 3:=Nat.lt_of_lt_of_le q1 (Nat.pow_le_pow_right Ya h2)
 rcases h3 with ⟨_,rfl⟩ | ⟨_,h4,rfl⟩
 ·omega
 ·have:=ZmC (p:=1000) h4 Ya
  omega
end Go.Im.Editing
namespace Go.Proofs.YtachkofbmodnnaaGreat.E5
open Go Go.Im Go.Im.Lexing Go.Im.Editing Go.Proofs Go.RowKit Hd E2
set_option maxRecDepth 100000
def Rd (l:List Int) (r:Value):Prop:=∃ x:Int,r= .tuple #[.int .i64 x,.bool (ZaY l).isSome]∧(∀ n,ZaY l=some n→x=(n:Int))∧0≤x∧x≤9999999
theorem Rd.no {l:List Int} (h:ZaY l=none) (x:Int) (hx:0≤x∧x≤9999999:=by first | decide | omega):Rd l (.tuple #[.int .i64 x,.bool false]):=⟨x,by rw [h];rfl,fun n hn=>by (rw [h] at hn;cases hn),hx⟩
theorem Rd.yes {l:List Int} {n:Nat} (h:ZaY l=some n):Rd l (.tuple #[.int .i64 (n:Int),.bool true]):=⟨n,by rw [h];rfl,fun m hm=>by (rw [h] at hm;cases hm;rfl),by have:=ZcB h;omega⟩
theorem ZmP {c:Int} (h1:¬ c < 48) (h2:¬ 57 < c):isD c=true∧IntKind.i32.wrap (c - 48)=((c.toNat - 48:Nat):Int)∧IntKind.i64.wrap ((c.toNat - 48:Nat):Int)=((c.toNat - 48:Nat):Int)∧c.toNat - 48≤9:=by
 refine ⟨by simp [isD];omega,?_,?_,by omega⟩
 ·rw [wrap_i32 Ya Ya]
  omega
 ·rw [wrap_i64 Ya Ya]
theorem ZlV {c:Int} (h:c < 48∨57 < c):isD c=false:=by
 simp only [isD,Bool.and_eq_false_iff,decide_eq_false_iff_not]
 omega
def PP (l:List Int) (j:Option Nat) (i n part:Nat):Prop:=match j with
 | none=>RA l i n part
 | some j=>RB' l j i n part
set_option maxHeartbeats 1000000 in
theorem Zda (l:List Int) (h:Heap) {tv:Value} (t:Ln h tv l) (hm:l.length≤1000000):Runs K 9 #[tv] h fun r w=>w=h∧Rd l r:=by
 refine Runs.of Kok (Does.intro rfl Yf Tryz.func9 rfl ?_)
 obtain ⟨a,c,rfl⟩:=t.open
 simp +decide only [go_sem,WR,WS]
 refine Zah (α:=Nat × Option Nat × Nat × Nat) (fun k e w=>k.1≤l.length∧e.size=84∧h=w∧e.get 0= .slice a l.length c∧e.get 9= .slice a l.length c∧e.get 10= .int .i64 ((l.length:Nat):Int)∧e.get 11= .int .i64 (k.1:Int)∧e.get 4= .int .i64 (k.2.2.1:Int)∧e.get 5= .int .i64 (k.2.2.2:Int)∧e.get 6= .bool k.2.1.isSome∧PP l k.2.1 k.1 k.2.2.1 k.2.2.2) (fun k=>l.length - k.1) (0,none,0,10000) ?_ ?_
 ·exact ⟨Nat.zero_le _,Yc,rfl,Yc,Yc,Yc,by simp +decide only [go_sem];rfl,by simp +decide only [go_sem];rfl,by simp +decide only [go_sem];rfl,by simp +decide only [go_sem];rfl,ZlF l⟩
 rintro ⟨i,j,n,part⟩ e w ⟨hk,hsz,hw,e0,e9,e10,e11,e4,e5,e6,hp⟩ next
 subst hw
 simp only at hk e11 e4 e5 e6 hp
 by_cases hil:(i:Int) < ((l.length:Nat):Int)
 case neg =>
  have hie:i=l.length:=Ya
  cases j with
  | none =>
    have hn:=ZlH hp
    have i1:IntKind.i64.wrap ((n:Int)*10000)=((n*10000:Nat):Int):=Yd
    have hr:=ZlI hp hie
    by_cases h0:(0:Int) < ((l.length:Nat):Int)
    ·rw [if_neg (by intro hh;subst hh;simp at h0)] at hr
     simp +decide only [go_sem,WR,WS,hsz,e0,e9,e10,e11,e4,e5,e6,hil,i1,h0,Option.isSome_none]
     exact Rd.yes hr
    ·have:l=[]:=List.eq_nil_of_length_eq_zero Ya
     rw [if_pos this] at hr
     simp +decide only [go_sem,WR,WS,hsz,e0,e9,e10,e11,e4,e5,e6,hil,i1,h0,Option.isSome_none]
     exact Rd.no hr _
  | some j =>
    have hr:=ZoB hp hie
    obtain ⟨g1,g2,g3,g4,g5,_⟩:=hp
    have h0:(0:Int) < ((l.length:Nat):Int):=Ya
    simp +decide only [go_sem,WR,WS,hsz,e0,e9,e10,e11,e4,e5,e6,hil,h0,Option.isSome_some]
    exact Rd.yes hr
 obtain ⟨x,hx⟩:∃ x,l[i]? =some x:=⟨_,List.getElem?_eq_getElem Ya⟩
 obtain ⟨b,o,cs,hq,q2,q3,q4⟩:=t.one hx
 cases hq
 have j0:(0:Int)≤(i:Int):=Ya
 have j1:IntKind.i64.wrap ((i:Int)+1)=((i+1:Nat):Int):=Yd
 have j2:IntKind.i64.wrap (((l.length:Nat):Int) - 1)=((l.length:Nat):Int) - 1:=YW
 by_cases h48:x < 48
 ·have hnd:=ZlV (.inl h48)
  by_cases h46:x=46
  ·cases j with
   | some j =>
     simp +decide only [go_sem,WR,WS,hsz,e0,e9,e10,e11,e4,e5,e6,hil,j0,Int.toNat_natCast,q3,q4,h46,Option.isSome_some]
     exact Rd.no (ZjH hp hx hnd) _
   | none =>
     subst h46
     have hn:=ZlH hp
     have i1:IntKind.i64.wrap ((n:Int)*10000)=((n*10000:Nat):Int):=Yd
     by_cases hi0:(0:Int) < (i:Int)
     case neg =>
      simp +decide only [go_sem,WR,WS,hsz,e0,e9,e10,e11,e4,e5,e6,hil,j0,Int.toNat_natCast,q3,q4,hi0,Option.isSome_none]
      exact Rd.no (ZfG hp hx hnd Ya) _
     by_cases hi1:(i:Int) < ((l.length:Nat):Int) - 1
     case neg =>
      simp +decide only [go_sem,WR,WS,hsz,e0,e9,e10,e11,e4,e5,e6,hil,j0,Int.toNat_natCast,q3,q4,hi0,j2,hi1,Option.isSome_none]
      exact Rd.no (ZfG hp hx hnd Ya) _
     simp +decide only [go_sem,WR,WS,hsz,e0,e9,e10,e11,e4,e5,e6,hil,j0,j1,Int.toNat_natCast,q3,q4,hi0,j2,hi1,i1,Option.isSome_none]
     exact next (i+1,some i,n*10000,1000) _ _ ⟨by simp only;omega,Yb,rfl,Ye,Ys,YA,Yb,Yb,by simp +decide only [go_sem,hsz];rfl,by simp +decide only [go_sem,hsz,Option.isSome_some],ZjI hp hx Ya Ya⟩ Yk
  ·cases j with
   | some j =>
     simp +decide only [go_sem,WR,WS,hsz,e0,e9,e10,e11,e4,e5,e6,hil,j0,Int.toNat_natCast,q3,q4,h46,h48,Option.isSome_some]
     exact Rd.no (ZjH hp hx hnd) _
   | none =>
     simp +decide only [go_sem,WR,WS,hsz,e0,e9,e10,e11,e4,e5,e6,hil,j0,Int.toNat_natCast,q3,q4,h46,h48,Option.isSome_none]
     exact Rd.no (ZfG hp hx hnd (fun hh=>h46 hh.1)) _
 have h46:¬ x=46:=Ya
 by_cases h57:57 < x
 ·have hnd:=ZlV (.inr h57)
  cases j with
  | some j =>
    simp +decide only [go_sem,WR,WS,hsz,e0,e9,e10,e11,e4,e5,e6,hil,j0,Int.toNat_natCast,q3,q4,h46,h48,h57,Option.isSome_some]
    exact Rd.no (ZjH hp hx hnd) _
  | none =>
    simp +decide only [go_sem,WR,WS,hsz,e0,e9,e10,e11,e4,e5,e6,hil,j0,Int.toNat_natCast,q3,q4,h46,h48,h57,Option.isSome_none]
    exact Rd.no (ZfG hp hx hnd (fun hh=>h46 hh.1)) _
 obtain ⟨d1,d2,d3,d4⟩:=ZmP h48 h57
 obtain ⟨d,hd⟩:∃ d,d=x.toNat - 48:=⟨_,rfl⟩
 cases j with
 | none =>
   have hn:=ZlH hp
   by_cases h2:(2:Int) < (i:Int)
   ·simp +decide only [go_sem,WR,WS,hsz,e0,e9,e10,e11,e4,e5,e6,hil,j0,Int.toNat_natCast,q3,q4,h46,h48,h57,h2,Option.isSome_none]
    exact Rd.no (ZlG hp hx d1 Ya) _
   have hnx:=ZjJ hp hx d1 Ya
   rw [← hd] at d2 d3 d4 hnx
   have i1:IntKind.i64.wrap (10*(n:Int))=((10*n:Nat):Int):=Yd
   have i2:IntKind.i64.wrap (((10*n:Nat):Int)+((d:Nat):Int))=((10*n+d:Nat):Int):=Yd
   simp +decide only [go_sem,WR,WS,hsz,e0,e9,e10,e11,e4,e5,e6,hil,j0,j1,Int.toNat_natCast,q3,q4,h46,h48,h57,h2,d2,d3,i1,i2,Option.isSome_none]
   exact next (i+1,none,10*n+d,10000) _ _ ⟨by simp only;omega,Yb,rfl,Ye,Ys,YA,Yb,Yb,by simp +decide only [go_sem,hsz,e5,hp.2.2.2.2],Yn,hnx⟩ Yk
 | some j =>
   have hn:=Zrt hp
   by_cases hp0:((part:Nat):Int)=0
   ·have hp0':part=0:=by omega
    subst hp0'
    simp +decide only [go_sem,WR,WS,hsz,e0,e9,e10,e11,e4,e5,e6,hil,j0,Int.toNat_natCast,q3,q4,h46,h48,h57,hp0,Option.isSome_some]
    exact Rd.no (ZlE hp hx) _
   have hnx:=ZjG hp hx d1 Ya
   rw [← hd] at d2 d3 d4 hnx
   have hmul:d*part≤9*1000:=Nat.mul_le_mul d4 hn.2
   have i1:IntKind.i64.wrap (((d:Nat):Int)*((part:Nat):Int))=((d*part:Nat):Int):=by rw [← Int.natCast_mul,wrap_i64 Ya Ya]
   have i2:IntKind.i64.wrap (((n:Nat):Int)+((d*part:Nat):Int))=((n+d*part:Nat):Int):=Yd
   have ten:(10:Int)≠0:=YI
   have i3:IntKind.i64.wrap (((part:Nat):Int).tdiv 10)=((part / 10:Nat):Int):=by
    have:((part:Nat):Int).tdiv 10=((part / 10:Nat):Int):=by rw [Int.tdiv_eq_ediv_of_nonneg Ya];omega
    rw [this,wrap_i64 Ya Ya]
   simp +decide only [go_sem,WR,WS,hsz,e0,e9,e10,e11,e4,e5,e6,hil,j0,j1,Int.toNat_natCast,q3,q4,h46,h48,h57,hp0,d2,d3,i1,i2,ten,i3,Option.isSome_some]
   exact next (i+1,some j,n+d*part,part / 10) _ _ ⟨by simp only;omega,Yb,rfl,Ye,Ys,YA,Yb,Yb,Yb,Yn,hnx⟩ Yk
theorem ZaU (c:Int) (h:Heap):Runs K 30 #[.int .i32 c] h fun r w=>w=h∧r= .bool (isD c):=by
 refine Runs.of Kok (Does.intro rfl Yf Tryz.func30 rfl ?_)
 by_cases h1:48≤c
 ·by_cases h2:c≤57
  ·simp +decide only [go_sem,WR,WS,h1,h2]
   simp [isD,h1,h2]
  ·simp +decide only [go_sem,WR,WS,h1,h2]
   simp [isD,h1,h2]
 ·simp +decide only [go_sem,WR,WS,h1]
  simp [isD,h1]
set_option maxHeartbeats 1000000 in
theorem Zck (l:List Int) (h:Heap) {tv:Value} (t:Ln h tv l) (hm:l.length≤1000000):Runs K 10 #[tv] h fun r w=>w=h∧Rd l r:=by
 refine Runs.of Kok (Does.intro rfl Yf Tryz.func10 rfl ?_)
 obtain ⟨a,c,rfl⟩:=t.open
 have ten:(10:Int)≠0:=YI
 apply ZaW (α:=Nat × Nat) (fun k e w=>e.size=87∧h=w∧e.get 0= .slice a l.length c∧e.get 4= .int .i64 (k.1:Int)∧e.get 5= .int .i64 (k.2:Int)∧RA l k.1 k.2 10000∧(∀ c,l[k.1]? =some c→isD c=false))
 ·intro cont
  simp +decide only [go_sem,WR,WS]
  refine Zah (α:=Nat × Nat) (fun k e w=>e.size=87∧h=w∧e.get 0= .slice a l.length c∧e.get 4= .int .i64 (k.1:Int)∧e.get 5= .int .i64 (k.2:Int)∧RA l k.1 k.2 10000) (fun k=>l.length - k.1) (0,0) ?_ ?_
  ·exact ⟨Yc,rfl,Yc,by simp +decide only [go_sem];rfl,by simp +decide only [go_sem];rfl,ZlF l⟩
  rintro ⟨i,n⟩ e w ⟨hsz,hw,e0,e4,e5,hp⟩ next
  subst hw
  simp only at e4 e5 hp
  have hn:=ZlH hp
  by_cases hil:(i:Int) < ((l.length:Nat):Int)
  case neg =>
   simp +decide only [go_sem,WS]
   (rw [WR];simp +decide only [go_sem,WS,hsz,e0,e4,e5,hil])
   exact cont (i,n) _ _ ⟨Yb,rfl,Ye,Yg,Ym,hp,fun c hc=>by simp [List.getElem?_eq_none (show l.length≤i by omega)] at hc⟩
  obtain ⟨x,hx⟩:∃ x,l[i]? =some x:=⟨_,List.getElem?_eq_getElem Ya⟩
  obtain ⟨b,o,cs,hq,q2,q3,q4⟩:=t.one hx
  cases hq
  have j0:(0:Int)≤(i:Int):=Ya
  have j1:IntKind.i64.wrap ((i:Int)+1)=((i+1:Nat):Int):=Yd
  simp +decide only [go_sem,WS]
  (rw [WR];simp +decide only [go_sem,WS,hsz,e0,e4,e5,hil,j0,Int.toNat_natCast,q3,q4])
  refine Zaa Kok (Nat.le_refl _) (ZaU x h) fun r w hx' hr=> ?_
  obtain ⟨hw,rfl⟩:=hr
  have hw:=hw.symm
  subst hw
  cases hdx:isD x with
  | false =>
    simp +decide only [go_sem,WS,hsz,e0,e4,e5]
    exact cont (i,n) _ _ ⟨Yb,rfl,Ye,Yg,Ym,hp,fun c hc=>by rw [hx] at hc;cases hc;exact hdx⟩
  | true =>
    have hb:¬ x < 48∧¬ 57 < x:=by
     simp only [isD,Bool.and_eq_true,decide_eq_true_eq] at hdx
     omega
    obtain ⟨d1,d2,d3,d4⟩:=ZmP hb.1 hb.2
    obtain ⟨d,hd⟩:∃ d,d=x.toNat - 48:=⟨_,rfl⟩
    by_cases h2:(2:Int) < (i:Int)
    ·have i1:IntKind.i64.wrap ((n:Int)*10)=((10*n:Nat):Int):=by rw [wrap_i64 Ya Ya];omega
     rw [← hd] at d2 d3 d4
     have i2:IntKind.i64.wrap (((10*n:Nat):Int)+((d:Nat):Int))=((10*n+d:Nat):Int):=Yd
     have h3:(3:Int) < ((i+1:Nat):Int):=Ya
     simp +decide only [go_sem,WR,WS,hsz,e0,e4,e5,hil,j0,Int.toNat_natCast,q3,q4,d2,d3,i1,i2,j1,h3]
     exact Rd.no (ZlG hp hx d1 Ya) _
    have hnx:=ZjJ hp hx d1 Ya
    rw [← hd] at d2 d3 d4 hnx
    have i1:IntKind.i64.wrap ((n:Int)*10)=((10*n:Nat):Int):=Yd
    have i2:IntKind.i64.wrap (((10*n:Nat):Int)+((d:Nat):Int))=((10*n+d:Nat):Int):=Yd
    have h3:¬ (3:Int) < ((i+1:Nat):Int):=Ya
    simp +decide only [go_sem,WR,WS,hsz,e0,e4,e5,hil,j0,Int.toNat_natCast,q3,q4,d2,d3,i1,i2,j1,h3]
    exact next (i+1,10*n+d) _ _ ⟨Yb,rfl,Ye,Yb,Yb,hnx⟩ Yk
 rintro ⟨i,n⟩ e w ⟨hsz,hw,e0,e4,e5,hp,hend⟩
 subst hw
 simp only at e4 e5 hp hend
 have hn:=ZlH hp
 have hil:=hp.2.1
 have hi3:=hp.1
 by_cases hi0:(i:Int)=0
 ·have hi0':i=0:=by omega
  subst hi0'
  simp +decide only [go_sem,WR,WS,hsz,e0,e4,e5,hi0]
  by_cases h0:l.length=0
  ·have hr:=ZlI hp h0.symm
   rw [if_pos (List.eq_nil_of_length_eq_zero h0)] at hr
   exact Rd.no hr _
  ·obtain ⟨x,hx⟩:∃ x,l[0]? =some x:=⟨_,List.getElem?_eq_getElem Ya⟩
   exact Rd.no (ZfG hp hx (hend x hx) Ya) _
 have i1:IntKind.i64.wrap ((n:Int)*10000)=((n*10000:Nat):Int):=Yd
 by_cases hie:(i:Int)=((l.length:Nat):Int)
 ·have hr:=ZlI hp Ya
  rw [if_neg (by intro hh;rw [hh] at hie;simp at hie;omega)] at hr
  have hl0:¬ ((l.length:Nat):Int)=0:=Ya
  simp +decide only [go_sem,WR,WS,hsz,e0,e4,e5,hi0,i1,hie,hl0]
  exact Rd.yes hr
 obtain ⟨x,hx⟩:∃ x,l[i]? =some x:=⟨_,List.getElem?_eq_getElem Ya⟩
 obtain ⟨b,o,cs,hq,q2,q3,q4⟩:=t.one hx
 cases hq
 have j0:(0:Int)≤(i:Int):=Ya
 have jl:(i:Int) < ((l.length:Nat):Int):=Ya
 have j1:IntKind.i64.wrap ((i:Int)+1)=((i+1:Nat):Int):=Yd
 have j5:IntKind.i64.wrap ((i:Int)+5)=((i+5:Nat):Int):=Yd
 by_cases h46:x=46
 case neg =>
  simp +decide only [go_sem,WR,WS,hsz,e0,e4,e5,hi0,i1,hie,j0,jl,Int.toNat_natCast,q3,q4,h46]
  exact Rd.no (ZfG hp hx (hend x hx) (fun hh=>h46 hh.1)) _
 subst h46
 by_cases hl1:((l.length:Nat):Int)=((i+1:Nat):Int)
 ·have hl2:¬ ((i:Nat):Int)=((i+1:Nat):Int):=by omega
  have hl3:((i:Nat):Int) < ((i+1:Nat):Int):=Ya
  simp +decide only [go_sem,WR,WS,hsz,e0,e4,e5,hi0,i1,hie,j0,jl,Int.toNat_natCast,q3,q4,j1,hl1,hl2,hl3]
  exact Rd.no (ZfG hp hx (hend _ hx) Ya) _
 have hb0:=ZjI hp hx Ya Ya
 by_cases hl5:((i+5:Nat):Int) < ((l.length:Nat):Int)
 ·simp +decide only [go_sem,WR,WS,hsz,e0,e4,e5,hi0,i1,hie,j0,jl,Int.toNat_natCast,q3,q4,j1,hl1,j5,hl5]
  refine Rd.no ?_ _
  rw [ZnC hb0,if_neg]
  rintro ⟨g,_⟩
  rw [List.length_drop] at g
  omega
 simp +decide only [go_sem,WR,WS,hsz,e0,e4,e5,hi0,i1,hie,j0,jl,Int.toNat_natCast,q3,q4,j1,hl1,j5,hl5]
 refine Zah (α:=Nat × Nat × Nat) (fun k e w=>e.size=87∧h=w∧e.get 0= .slice (some ⟨b,o,none⟩) l.length big∧e.get 7= .int .i64 (k.1:Int)∧e.get 5= .int .i64 (k.2.1:Int)∧e.get 6= .int .i64 (k.2.2:Int)∧RB' l i k.1 k.2.1 k.2.2) (fun k=>l.length - k.1) (i+1,n*10000,1000) ?_ ?_
 ·exact ⟨Yb,rfl,Ye,Yb,Yb,by simp +decide only [go_sem,hsz];rfl,hb0⟩
 clear e0 e4 e5 hsz
 rintro ⟨k,m,part⟩ e w ⟨hsz,hw,e0,e7,e5,e6,hq⟩ next
 subst hw
 simp only at e7 e5 e6 hq
 have hmn:=Zrt hq
 by_cases hkl:(k:Int) < ((l.length:Nat):Int)
 case neg =>
  have hr:=ZoB hq (by have:=hq.2.2.2.2.2.2.1;omega)
  simp +decide only [go_sem,WR,WS,hsz,e0,e7,e5,e6,hkl]
  exact Rd.yes hr
 obtain ⟨y,hy⟩:∃ y,l[k]? =some y:=⟨_,List.getElem?_eq_getElem Ya⟩
 obtain ⟨b2,o2,cs2,hq2,p2,p3,p4⟩:=t.one hy
 cases hq2
 have k0:(0:Int)≤(k:Int):=Ya
 have k1:IntKind.i64.wrap ((k:Int)+1)=((k+1:Nat):Int):=Yd
 simp +decide only [go_sem,WR,WS,hsz,e0,e7,e5,e6,hkl,k0,Int.toNat_natCast,p3,p4]
 refine Zaa Kok (Nat.le_refl _) (ZaU y h) fun r w hx' hr=> ?_
 obtain ⟨hw,rfl⟩:=hr
 have hw:=hw.symm
 subst hw
 cases hdy:isD y with
 | false =>
   simp +decide only [go_sem,WR,WS,hsz,e0,e7,e5,e6]
   exact Rd.no (ZjH hq hy hdy) _
 | true =>
   have hb:¬ y < 48∧¬ 57 < y:=by
    simp only [isD,Bool.and_eq_true,decide_eq_true_eq] at hdy
    omega
   obtain ⟨d1,d2,d3,d4⟩:=ZmP hb.1 hb.2
   obtain ⟨d,hd⟩:∃ d,d=y.toNat - 48:=⟨_,rfl⟩
   have hp0:part≠0:=by
    intro hh
    have:=ZlE (by rw [hh] at hq;exact hq) hy
    obtain ⟨g1,g2,g3,g4,g5,g6,g7,g8,g9,g10,g11⟩:=hq
    have:k - (i+1)=0∨k - (i+1)=1∨k - (i+1)=2∨k - (i+1)=3:=by omega
    rcases this with hh' | hh' | hh' | hh'<;>(rw [hh'] at g11;simp at g11;omega)
   have hnx:=ZjG hq hy d1 hp0
   rw [← hd] at d2 d3 d4 hnx
   have hmul:d*part≤9*1000:=Nat.mul_le_mul d4 hmn.2
   have i1:IntKind.i64.wrap (((part:Nat):Int)*((d:Nat):Int))=((d*part:Nat):Int):=by rw [← Int.natCast_mul,Nat.mul_comm,wrap_i64 Ya Ya]
   have i2:IntKind.i64.wrap (((m:Nat):Int)+((d*part:Nat):Int))=((m+d*part:Nat):Int):=Yd
   have i3:IntKind.i64.wrap (((part:Nat):Int).tdiv 10)=((part / 10:Nat):Int):=by
    have:((part:Nat):Int).tdiv 10=((part / 10:Nat):Int):=by rw [Int.tdiv_eq_ediv_of_nonneg Ya];omega
    rw [this,wrap_i64 Ya Ya]
   simp +decide only [go_sem,WR,WS,hsz,e0,e7,e5,e6,hkl,k0,k1,Int.toNat_natCast,p3,p4,d2,d3,i1,i2,ten,i3]
   exact next (k+1,m+d*part,part / 10) _ _ ⟨Yb,rfl,Ye,Yb,Yb,Yb,hnx⟩ Yk
end Go.Proofs.YtachkofbmodnnaaGreat.E5
namespace Go.Im.Editing
open Go Go.Im Go.Im.Lexing Go.Im.Heads Go.Im.Defn Go.Proofs.YtachkofbmodnnaaGreat.H4
def ZcI (n:Nat):Nat:=if n%10000=0 then 10000 else if n%1000=0 then 1000 else if n%100=0 then 100 else if n%10=0 then 10 else 1
def Zeb (n:Nat) (l:List Int):Option ByteArray:=if n=0 then (if (hdp l).2=true then some (txtB (hdp l).1) else none) else if (lex l).isSome=true then some (runesBytes l) else none
abbrev Rows:=List (Nat × ByteArray)
def less (n:Nat) (r:Rows):Rows:=r.filter fun p=>decide (p.1 < n)
def more (n:Nat) (r:Rows):Rows:=r.filter fun p=>decide (n < p.1)
def has (n:Nat) (r:Rows):Bool:=r.any fun p=>decide (p.1=n)
def Rise (r:Rows):Prop:=r.Pairwise fun p q=>p.1 < q.1
def setS (x:EdT) (n:Nat) (l:List Int):Option EdT:=match Zeb n l with
 | none=>none
 | some s=>if has n x.rows=false∧200 < x.rows.length then none else some ⟨less n x.rows++(n,s)::more n x.rows,min (n+ZcI n) 9999999⟩
def Zdm (p:Nat × ByteArray):ByteArray:=text (91::(numT p.1++([93,32]++p.2.data.toList)))
def Zba (r:Rows) (a b:Int):List ByteArray:=(r.filter fun p=>decide (a≤(p.1:Int)∧(p.1:Int)≤b)).map Zdm
def Zb3 (x:EdT) (n:Nat):Option EdT:=if n=0∨has n x.rows=false then none else some ⟨less n x.rows++more n x.rows,n⟩
def cmdS (x:EdT) (l tx:List Int):Option (List ByteArray × EdT):=match ZaY l with
 | some n=>if tx=[] then some ([],{ x with nx:=n }) else (setS x n tx).map fun y=>([],y)
 | none=>if l=[]∨tx≠[] then none
   else if l.head? =some 9109 then (if l.length=1 then some (Zba x.rows 0 9999999,x) else (ZaY (l.drop 1)).map fun (n:Nat)=>(Zba x.rows (n:Int) 9999999,x))
   else if l.getLast? =some 9109 then (ZaY l.dropLast).map fun (n:Nat)=>(Zba x.rows (n:Int) (n:Int),{ x with nx:=n })
   else if l.head? =some 8710 then (ZaY (l.drop 1)).bind fun n=>(Zb3 x n).map fun y=>([],y)
   else none
def idx (l:List Int) (c:Int):Option Nat:=l.findIdx? fun d=>decide (d=c)
def doS (x:EdT) (l:List Int):List ByteArray × Bool × Int × EdT :=
 let m:=(ZbC l).1
 if m=[] then ([],(ZbC l).2,0,x)
 else if m.head? =some 91 then match (idx m 93).bind fun i=>cmdS x (trimS ((m.take i).drop 1)) (trimS (m.drop (i+1))) with
  | some (out,y)=>(out,(ZbC l).2,0,y)
  | none=>([],false,28,x)
 else match setS x x.nx m with
  | some y=>([],(ZbC l).2,0,y)
  | none=>([],false,28,x)
theorem Zha {n:Nat} {r:Rows} {p:Nat × ByteArray} (h:p ∈ less n r):p.1 < n:=by simpa using (List.mem_filter.1 h).2
theorem Zg1 {n:Nat} {r:Rows} {p:Nat × ByteArray} (h:p ∈ more n r):n < p.1:=by simpa using (List.mem_filter.1 h).2
theorem ZjS {n:Nat}:∀ {r:Rows},(∀ p ∈ r,n < p.1)→more n r=r∧less n r=[]∧has n r=false:=by
 intro r h
 refine ⟨List.filter_eq_self.2 fun p hp=>by simpa using h p hp,List.filter_eq_nil_iff.2 fun p hp=>by have:=h p hp;simp;omega,?_⟩
 simp only [has,List.any_eq_false]
 intro p hp
 have:=h p hp
 simp
 omega
theorem Zbw {n:Nat}:∀ {r:Rows},Rise r→(has n r=false∧r=less n r++more n r)∨(has n r=true∧∃ t,r=less n r++(n,t)::more n r)
 | [],_=> .inl ⟨rfl,rfl⟩
 | p::r,h=>by
   have hp:=List.pairwise_cons.1 h
   by_cases c1:p.1 < n
   ·have e1:less n (p::r)=p::less n r:=by simp [less,c1]
    have e2:more n (p::r)=more n r:=by simp [more,show ¬ n < p.1 by omega]
    have e3:has n (p::r)=has n r:=by simp [has,show ¬ p.1=n by omega]
    rw [e1,e2,e3]
    rcases Zbw hp.2 with ⟨a,b⟩ | ⟨a,t,b⟩
    ·exact .inl ⟨a,by rw [List.cons_append,← b]⟩
    ·exact .inr ⟨a,t,by rw [List.cons_append,← b]⟩
   ·by_cases c2:p.1=n
    ·obtain ⟨a,b,c⟩:=ZjS (n:=n) (r:=r) fun q hq=>by have:=hp.1 q hq;omega
     refine .inr ⟨by simp [has,c2],p.2,?_⟩
     have e1:less n (p::r)=[]:=by rw [less,List.filter_cons_of_neg (by simpa using c1)];exact b
     have e2:more n (p::r)=r:=by rw [more,List.filter_cons_of_neg Yl];exact a
     rw [e1,e2,← c2]
     rfl
    ·obtain ⟨a,b,c⟩:=ZjS (n:=n) (r:=p::r) fun q hq=>by
      rcases List.mem_cons.1 hq with rfl | hq
      ·omega
      ·have:=hp.1 q hq;omega
     exact .inl ⟨c,by rw [a,b];rfl⟩
theorem Znw {n:Nat} {s:ByteArray} {r:Rows} (h:Rise r):Rise (less n r++(n,s)::more n r):=by
 refine List.pairwise_append.2 ⟨h.filter _,List.pairwise_cons.2 ⟨fun q hq=>Zg1 hq,h.filter _⟩,fun p hp q hq=> ?_⟩
 have h1:=Zha hp
 rcases List.mem_cons.1 hq with rfl | hq
 ·exact h1
 ·have:=Zg1 hq;omega
theorem Zlz {n:Nat} {r:Rows} (h:Rise r):Rise (less n r++more n r) :=
 List.pairwise_append.2 ⟨h.filter _,h.filter _,fun p hp q hq=>by have:=Zha hp;have:=Zg1 hq;omega⟩
theorem Zh4 {n i:Nat} {r:Rows} (h1:∀ (k:Nat) (p:Nat × ByteArray),k < i→r[k]? =some p→p.1 < n) (h2:∀ (k:Nat) (p:Nat × ByteArray),i≤k→r[k]? =some p→n≤p.1):less n r=r.take i:=by
 have e:r=r.take i++r.drop i:=(List.take_append_drop i r).symm
 have a1:(r.take i).filter (fun p=>decide (p.1 < n))=r.take i:=List.filter_eq_self.2 fun p hp=>by
  obtain ⟨k,hk⟩:=List.getElem?_of_mem hp
  rw [List.getElem?_take] at hk
  split at hk
  ·rename_i hki
   simpa using h1 k p hki hk
  ·cases hk
 have a2:(r.drop i).filter (fun p=>decide (p.1 < n))=[]:=List.filter_eq_nil_iff.2 fun p hp=>by
  obtain ⟨k,hk⟩:=List.getElem?_of_mem hp
  rw [List.getElem?_drop] at hk
  have:=h2 _ p Ya hk
  simp
  omega
 rw [less]
 conv=>lhs;rw [e]
 rw [List.filter_append,a1,a2,List.append_nil]
theorem Zph {n:Nat} {s:ByteArray} {r:Rows} (h:Rise r):(less n r++(n,s)::more n r).length=if has n r=true then r.length else r.length+1:=by
 rcases Zbw (n:=n) h with ⟨a,b⟩ | ⟨a,t,b⟩
 ·rw [if_neg (by simp [a])]
  have:=congrArg List.length b
  simp at this ⊢
  omega
 ·rw [if_pos a]
  have:=congrArg List.length b
  simp at this ⊢
  omega
theorem Zn8 {n:Nat} {r:Rows} (h:Rise r):(less n r++more n r).length≤r.length:=by
 rcases Zbw (n:=n) h with ⟨a,b⟩ | ⟨a,t,b⟩
 ·have:=congrArg List.length b
  simp at this ⊢
  omega
 ·have:=congrArg List.length b
  simp at this ⊢
  omega
theorem ZbA {n:Nat} {r:Rows}:has n r=true↔∃ t,(n,t) ∈ r:=by
 simp only [has,List.any_eq_true,decide_eq_true_eq]
 constructor
 ·rintro ⟨⟨a,t⟩,h1,h2⟩
  exact ⟨t,by simp only at h2;rw [← h2];exact h1⟩
 ·rintro ⟨t,h⟩
  exact ⟨(n,t),h,rfl⟩
theorem ZhM {r:Rows} {i:Nat} {p:Nat × ByteArray} (h:r[i]? =some p) (a b:Int):Zba (r.take (i+1)) a b=Zba (r.take i) a b++if a≤(p.1:Int)∧(p.1:Int)≤b then [Zdm p] else []:=by
 simp only [Zba]
 rw [List.take_add_one,h,List.filter_append,List.map_append]
 congr 1
 by_cases hc:a≤(p.1:Int)∧(p.1:Int)≤b
 ·simp [hc]
 ·simp only [if_neg hc]
  simp [hc]
theorem ZdT (r:Rows) (a b:Int):(Zba r a b).length≤r.length:=by
 rw [Zba,List.length_map]
 exact List.length_filter_le _ _
theorem Zly {r:Rows} (hr:Rise r) {i j:Nat} {p q:Nat × ByteArray} (hi:r[i]? =some p) (hj:r[j]? =some q) (h:i < j):p.1 < q.1:=by
 obtain ⟨h3,h4⟩:=List.getElem?_eq_some_iff.1 hi
 obtain ⟨h5,h6⟩:=List.getElem?_eq_some_iff.1 hj
 rw [← h4,← h6]
 exact List.pairwise_iff_getElem.1 hr i j h3 h5 h
theorem Zqu {r:Rows} (hr:Rise r) {i:Nat} {p:Nat × ByteArray} (hi:r[i]? =some p):has p.1 r=true∧(less p.1 r).length=i:=by
 refine ⟨ZbA.2 ⟨p.2,List.mem_of_getElem? hi⟩,?_⟩
 have hl:i < r.length:=(List.getElem?_eq_some_iff.1 hi).1
 rw [Zh4 (i:=i) (fun k q hk hq=>Zly hr hq hi hk) (fun k q hk hq=> ?_),List.length_take]
 ·omega
 ·by_cases e:k=i
  ·subst e
   rw [hi] at hq
   cases hq
   exact Nat.le_refl _
  ·exact Nat.le_of_lt (Zly hr hi hq Ya)
theorem Zms:∀ {l:List Int} {i:Nat} {c:Int},l[i]? =some c→c ∉ l.take i→idx l c=some i
 | [],i,c,h,_=>by simp at h
 | d::l,0,c,h,_=>by
   simp only [List.getElem?_cons_zero,Option.some.injEq] at h
   simp [idx,List.findIdx?_cons,h]
 | d::l,i+1,c,h,hn=>by
   simp only [List.take_succ_cons,List.mem_cons,not_or] at hn
   have:=Zms (l:=l) (i:=i) (c:=c) YN hn.2
   unfold idx at this ⊢
   have hd:¬ d=c:=fun e=>hn.1 e.symm
   simp [List.findIdx?_cons,hd,this]
theorem ZoM {l:List Int} {c:Int} (h:c ∉ l):idx l c=none:=by
 simp only [idx,List.findIdx?_eq_none_iff,decide_eq_false_iff_not]
 intro x hx e
 exact h (e ▸ hx)
theorem ZoN:∀ {l:List Int} {i:Nat} {c:Int},idx l c=some i→l[i]? =some c
 | [],i,c,h=>by simp [idx] at h
 | d::l,i,c,h=>by
   unfold idx at h
   rw [List.findIdx?_cons] at h
   by_cases hd:d=c
   ·simp [hd] at h
    rw [← h,hd]
    rfl
   ·simp only [decide_eq_true_eq,hd,if_false] at h
    obtain ⟨j,hj,rfl⟩:=Option.map_eq_some_iff.1 h
    simpa using ZoN (l:=l) (i:=j) (c:=c) hj
def ZkZ (n s:Nat):Prop:=(s=10000∨s=1000∨s=100∨s=10∨s=1)∧(s < 10000→n%10000≠0)∧(s < 1000→n%1000≠0)∧(s < 100→n%100≠0)∧(s < 10→n%10≠0)
theorem ZhK (n:Nat):ZkZ n 10000:=⟨.inl rfl,by omega,by omega,by omega,by omega⟩
theorem step_end {n s:Nat} (I:ZkZ n s) (h:n%s=0):s=ZcI n:=by
 obtain ⟨hs,h1,h2,h3,h4⟩:=I
 unfold ZcI
 rcases hs with rfl | rfl | rfl | rfl | rfl
 ·rw [if_pos h]
 ·rw [if_neg (h1 Ya),if_pos h]
 ·rw [if_neg (h1 Ya),if_neg (h2 Ya),if_pos h]
 ·rw [if_neg (h1 Ya),if_neg (h2 Ya),if_neg (h3 Ya),if_pos h]
 ·rw [if_neg (h1 Ya),if_neg (h2 Ya),if_neg (h3 Ya),if_neg (h4 Ya)]
theorem ZhL {n s:Nat} (I:ZkZ n s) (h:n%s≠0):ZkZ n (s / 10)∧s / 10 < s:=by
 obtain ⟨hs,h1,h2,h3,h4⟩:=I
 rcases hs with rfl | rfl | rfl | rfl | rfl
 ·exact ⟨⟨by omega,fun _=>h,by omega,by omega,by omega⟩,by omega⟩
 ·exact ⟨⟨by omega,fun _=>h1 Ya,fun _=>h,by omega,by omega⟩,by omega⟩
 ·exact ⟨⟨by omega,fun _=>h1 Ya,fun _=>h2 Ya,fun _=>h,by omega⟩,by omega⟩
 ·exact ⟨⟨by omega,fun _=>h1 Ya,fun _=>h2 Ya,fun _=>h3 Ya,fun _=>h⟩,by omega⟩
 ·omega
theorem Zlf (n:Nat):1≤ZcI n∧ZcI n≤10000:=by
 unfold ZcI
 repeat' split
 all_goals omega
theorem Zku {l:List Int} {n:Nat} (h:ZaY l=some n):∃ c,l.head? =some c∧isD c=true:=by
 obtain ⟨h1,_,_⟩:=Zev h
 cases l with
 | nil=>exact absurd rfl h1
 | cons c l =>
   refine ⟨c,rfl,?_⟩
   cases hc:isD c with
   | true=>rfl
   | false=>simp [digs,hc] at h1
theorem Zki {l:List Int} (h:l.all isD=true) (h0:1≤l.length):∃ c,l.getLast? =some c∧isD c=true:=by
 cases hl:l.getLast? with
 | none=>rw [List.getLast?_eq_none_iff] at hl;subst hl;simp at h0
 | some c=>exact ⟨c,rfl,List.all_eq_true.1 h c (List.mem_of_getLast? hl)⟩
theorem ZlC {l:List Int} {n:Nat} (h:ZaY l=some n):∃ c,l.getLast? =some c∧isD c=true:=by
 obtain ⟨h1,_,h3⟩:=Zev h
 rcases h3 with ⟨h3,_⟩ | ⟨h3,h4,_⟩
 ·have e:digs l=l:=by
   have:=Zds (p:=isD) l
   have e2:(l.takeWhile isD).length=l.length:=h3
   rw [e2,List.take_length] at this
   exact this.symm
  have:=Zkb l
  rw [e] at this h1
  exact Zki this Ya
 ·obtain ⟨c,hc,hd⟩:=Zki h4 h3
  rw [List.getLast?_drop] at hc
  split at hc
  ·cases hc
  ·exact ⟨c,hc,hd⟩
theorem ZmK (i:Int):(Utf8.encode i).size≤4:=by
 unfold Utf8.encode
 simp only
 repeat' split
 all_goals simp [ByteArray.size]
theorem fold_size (ns:List Int):∀ s:ByteArray,(ns.foldl (fun r n=>r++Utf8.encode n) s).size≤s.size+4*ns.length:=by
 induction ns with
 | nil=>intro s;simp
 | cons n ns ih =>
   intro s
   have h1:=ih (s++Utf8.encode n)
   have h2:=ZmK n
   rw [ByteArray.size_append] at h1
   simp only [List.foldl_cons,List.length_cons]
   omega
theorem ZjB (l:List Int):(runesBytes l).size≤4*l.length:=by
 have:=fold_size l ByteArray.empty
 have e:ByteArray.empty.size=0:=rfl
 rw [e] at this
 unfold runesBytes
 omega
structure Inv (x:EdT):Prop where
 rise:Rise x.rows
 zero:has 0 x.rows=true
 few:x.rows.length≤201
 nums:∀ p ∈ x.rows,p.1≤9999999
 sizes:∀ p ∈ x.rows,p.2.size≤100000
 next:x.nx≤9999999
theorem ZkE {n:Nat} {l:List Int} {s:ByteArray} (h:Zeb n l=some s):s.size≤100000:=by
 unfold Zeb at h
 split at h
 ·split at h
  ·cases h
   exact Go.Proofs.YtachkofbmodnnaaGreat.D6.Zjs (Zdg l)
  ·cases h
 ·split at h
  ·rename_i hl
   cases h
   obtain ⟨ts,ht⟩:=Option.isSome_iff_exists.1 hl
   have:=Zg8 ht
   have:=ZjB l
   omega
  ·cases h
theorem Zlq {x:EdT} (I:Inv x) {n:Nat} (hn:n≤9999999) {l:List Int} {y:EdT} (h:setS x n l=some y):Inv y:=by
 unfold setS at h
 split at h
 ·cases h
 ·rename_i s hs
  split at h
  ·cases h
  ·rename_i hc
   cases h
   have mem:∀ p,p ∈ less n x.rows++(n,s)::more n x.rows→p=(n,s)∨p ∈ x.rows:=by
    intro p hp
    rcases List.mem_append.1 hp with hp | hp
    ·exact .inr (List.mem_filter.1 hp).1
    ·rcases List.mem_cons.1 hp with rfl | hp
     ·exact .inl rfl
     ·exact .inr (List.mem_filter.1 hp).1
   refine ⟨Znw I.rise,?_,?_,?_,?_,?_⟩
   ·by_cases h0:n=0
    ·exact ZbA.2 ⟨s,by rw [h0];simp⟩
    ·obtain ⟨t,ht⟩:=ZbA.1 I.zero
     refine ZbA.2 ⟨t,List.mem_append_left _ (List.mem_filter.2 ⟨ht,by simp;omega⟩)⟩
   ·simp only
    rw [Zph I.rise]
    have:=I.few
    split
    ·exact this
    ·rename_i hh
     have:¬ 200 < x.rows.length:=fun h2=>hc ⟨by simpa using hh,h2⟩
     omega
   ·intro p hp
    rcases mem p hp with rfl | hp
    ·exact hn
    ·exact I.nums p hp
   ·intro p hp
    rcases mem p hp with rfl | hp
    ·exact ZkE hs
    ·exact I.sizes p hp
   ·exact Nat.min_le_right _ _
theorem Zn9 {x:EdT} (I:Inv x) {n:Nat} (hn:n≤9999999) {y:EdT} (h:Zb3 x n=some y):Inv y:=by
 unfold Zb3 at h
 split at h
 ·cases h
 ·rename_i hc
  cases h
  have mem:∀ p,p ∈ less n x.rows++more n x.rows→p ∈ x.rows:=by
   intro p hp
   rcases List.mem_append.1 hp with hp | hp<;>exact (List.mem_filter.1 hp).1
  obtain ⟨t,ht⟩:=ZbA.1 I.zero
  have h0:¬ n=0:=fun h=>hc (.inl h)
  exact ⟨Zlz I.rise,ZbA.2 ⟨t,List.mem_append_left _ (List.mem_filter.2 ⟨ht,by simp;omega⟩)⟩,Nat.le_trans (Zn8 I.rise) I.few,fun p hp=>I.nums p (mem p hp),fun p hp=>I.sizes p (mem p hp),hn⟩
theorem Inv.at {x:EdT} (I:Inv x) {n:Nat} (hn:n≤9999999):Inv { x with nx:=n }:=⟨I.rise,I.zero,I.few,I.nums,I.sizes,hn⟩
theorem Zqk {x:EdT} (I:Inv x) {l tx:List Int} {out:List ByteArray} {y:EdT} (h:cmdS x l tx=some (out,y)):Inv y:=by
 unfold cmdS at h
 split at h
 ·rename_i n hn
  split at h
  ·cases h
   exact I.at (ZcB hn)
  ·obtain ⟨z,hz,he⟩:=Option.map_eq_some_iff.1 h
   cases he
   exact Zlq I (ZcB hn) hz
 ·split at h
  ·cases h
  ·split at h
   ·split at h
    ·cases h
     exact I
    ·obtain ⟨z,hz,he⟩:=Option.map_eq_some_iff.1 h
     cases he
     exact I
   ·split at h
    ·obtain ⟨z,hz,he⟩:=Option.map_eq_some_iff.1 h
     cases he
     exact I.at (ZcB hz)
    ·split at h
     ·obtain ⟨n,hn,h2⟩:=Option.bind_eq_some_iff.1 h
      obtain ⟨z,hz,he⟩:=Option.map_eq_some_iff.1 h2
      cases he
      exact Zn9 I (ZcB hn) hz
     ·cases h
theorem Zsk {x:EdT} (I:Inv x) (l:List Int):Inv (doS x l).2.2.2:=by
 unfold doS
 simp only
 split
 ·exact I
 ·split
  ·split
   ·rename_i out y hy
    obtain ⟨i,_,h⟩:=Option.bind_eq_some_iff.1 hy
    exact Zqk I h
   ·exact I
  ·split
   ·rename_i y hy
    exact Zlq I I.next hy
   ·exact I
theorem Zhn {p:Int→Bool}:∀ {l:List Int} {c:Int},(l.dropWhile p)[0]? =some c→p c=false
 | [],c,h=>by simp at h
 | d::l,c,h=>by
   cases hd:p d with
   | true=>rw [List.dropWhile_cons_of_pos hd] at h;exact Zhn h
   | false =>
     rw [List.dropWhile_cons_of_neg (by simp [hd])] at h
     simp only [List.getElem?_cons_zero,Option.some.injEq] at h
     rw [← h]
     exact hd
theorem ZcM (l:List Int):trimS (trimS l)=trimS l:=by
 obtain ⟨m,hm⟩:∃ m,m=l.dropWhile isB:=⟨_,rfl⟩
 obtain ⟨r,hr⟩:∃ r,r=trimS l:=⟨_,rfl⟩
 have hrm:r=ZgQ m:=by rw [hr,hm];rfl
 have pre:r <+: m:=by
  rw [hrm,ZgQ]
  have:=List.reverse_prefix.2 (List.dropWhile_suffix isB (l:=m.reverse))
  rwa [List.reverse_reverse] at this
 have first:∀ c,r[0]? =some c→isB c=false:=by
  intro c hc
  obtain ⟨t,ht⟩:=pre
  have hl:=(List.getElem?_eq_some_iff.1 hc).1
  have:m[0]? =some c:=by rw [← ht,List.getElem?_append_left hl];exact hc
  rw [hm] at this
  exact Zhn this
 have last:0 < r.length→∀ c,r[r.length - 1]? =some c→isB c=false:=by
  intro h0 c hc
  refine Zhn (p:=isB) (l:=m.reverse) ?_
  have e:m.reverse.dropWhile isB=r.reverse:=by rw [hrm,ZgQ,List.reverse_reverse]
  rw [e,List.getElem?_reverse h0]
  simpa using hc
 rw [← hr]
 have e1:r.dropWhile isB=r:=dw_stop first
 have e2:ZgQ r=r.take r.length:=Ze9 (Nat.le_refl _) Yp last
 rw [trimS,e1,e2,List.take_length]
theorem Ziw (l:List Int):trimS (ZbC l).1=(ZbC l).1:=by
 by_cases h1:(trimS l).getLast? =some 8711
 ·by_cases h2:Zcb false (trimS l).dropLast=some false
  ·rw [ZmH h1 h2]
   exact ZcM _
  ·rw [ZmI h1 h2]
   exact ZcM _
 ·rw [ZmJ h1]
  exact ZcM _
end Go.Im.Editing
namespace Go.Proofs.YtachkofbmodnnaaGreat.E3
open Go Go.Im Go.Im.Lexing Go.Im.Editing Go.Proofs Go.RowKit Hd E2
set_option maxRecDepth 100000
theorem last_at {m:List Int} {x:Int} (h:m[m.length - 1]? =some x):m.getLast? =some x:=by rw [List.getLast?_eq_getElem?];exact h
theorem ZhN {q:Bool} {D:List Int} {i:Nat} {x:Int} (h:D[i]? =some x):Zcb q (D.drop i)=if x=39 then Zcb (!q) (D.drop (i+1)) else if x=9053∧q=false then none else Zcb q (D.drop (i+1)):=by
 obtain ⟨h1,h2⟩:=List.getElem?_eq_some_iff.1 h
 rw [List.drop_eq_getElem_cons h1,h2,Zcb]
theorem Zog (l:List Int) (h:Heap) {tv:Value} (t:Ln h tv l) (hm:l.length≤1000000):Runs K 13 #[tv] h fun r w=>w=h∧∃ v,r= .tuple #[v,.bool (ZbC l).2]∧Ln h v (ZbC l).1:=by
 refine Runs.of Kok (Does.intro rfl Yf Tryz.func13 rfl ?_)
 simp +decide only [go_sem,WR,WS]
 refine Zaa Kok (Nat.le_refl _) (ZaI l h t Ya) fun r w x hr=> ?_
 obtain ⟨hw,tm⟩:=hr
 have hw:=hw.symm
 subst hw
 obtain ⟨m,hm'⟩:∃ m,m=trimS l:=⟨_,rfl⟩
 rw [← hm'] at tm
 have hml:m.length≤l.length:=by rw [hm'];exact ZbK l
 obtain ⟨a,c,rfl⟩:=tm.open
 have no:m.getLast? ≠some 8711→ZbC l=(m,false):=fun hh=>by rw [hm'] at hh ⊢;exact ZmJ hh
 have no2:m.getLast? =some 8711→Zcb false m.dropLast≠some false→ZbC l=(m,false):=fun h1 h2=>by rw [hm'] at h1 h2 ⊢;exact ZmI h1 h2
 have yes:m.getLast? =some 8711→Zcb false m.dropLast=some false→ZbC l=(trimS m.dropLast,true):=fun h1 h2=>by rw [hm'] at h1 h2 ⊢;exact ZmH h1 h2
 by_cases h0:((m.length:Nat):Int)=0
 ·have:m=[]:=List.eq_nil_of_length_eq_zero Ya
  simp +decide only [go_sem,WR,WS,h0]
  rw [no (by rw [this];simp)]
  exact ⟨_,rfl,tm⟩
 obtain ⟨x,hx⟩:∃ x,m[m.length - 1]? =some x:=⟨_,List.getElem?_eq_getElem Ya⟩
 have hlast:=last_at hx
 obtain ⟨b,o,cs,hq,q2,q3,q4⟩:=tm.one hx
 cases hq
 have i1:IntKind.i64.wrap (((m.length:Nat):Int) - 1)=((m.length - 1:Nat):Int):=Yd
 have c0:(0:Int)≤((m.length - 1:Nat):Int):=Ya
 have c1:((m.length - 1:Nat):Int) < ((m.length:Nat):Int):=Ya
 by_cases hd:x=8711
 case neg =>
  simp +decide only [go_sem,WR,WS,h0,i1,c0,c1,Int.toNat_natCast,q3,q4,hd]
  rw [no (by rw [hlast];simp [hd])]
  exact ⟨_,rfl,tm⟩
 rw [hd] at hlast
 obtain ⟨a',c',f1,tk⟩:=tm.cut (lo:=none) (hi:=some (.int .i64 ((m.length - 1:Nat):Int))) (x:=0) (y:=m.length - 1) rfl Yz (Nat.zero_le _) Ya
 rw [List.drop_zero,Nat.sub_zero,← List.dropLast_eq_take] at tk
 rw [Nat.sub_zero] at f1
 obtain ⟨D,hD⟩:∃ D,D=m.dropLast:=⟨_,rfl⟩
 rw [← hD] at tk no2 yes
 have hDl:D.length=m.length - 1:=by rw [hD];simp
 simp +decide only [go_sem,WR,WS,h0,i1,c0,c1,Int.toNat_natCast,q3,q4,hd,f1]
 refine Zah (α:=Nat × Bool) (fun k e w=>k.1≤D.length∧e.size=54∧h=w∧e.get 0= .slice (some ⟨b,o,none⟩) m.length big∧e.get 4= .bool k.2∧e.get 26= .slice a' (m.length - 1) c'∧e.get 27= .int .i64 ((m.length - 1:Nat):Int)∧e.get 28= .int .i64 (k.1:Int)∧Zcb false D=Zcb k.2 (D.drop k.1)) (fun k=>D.length - k.1) (0,false) ?_ ?_
 ·exact ⟨Nat.zero_le _,Yc,rfl,Yc,Yc,Yc,Yc,by simp +decide only [go_sem];rfl,by simp⟩
 rintro ⟨k,q⟩ e w ⟨hk,hsz,hw,e0,e4,e26,e27,e28,hsc⟩ next
 subst hw
 simp only at hk e4 e28 hsc
 by_cases hkl:(k:Int) < ((m.length - 1:Nat):Int)
 case neg =>
  have hke:k=D.length:=Ya
  rw [hke,List.drop_of_length_le (Nat.le_refl _),Zcb] at hsc
  cases q with
  | true =>
    simp +decide only [go_sem,WR,WS,hsz,e0,e4,e26,e27,e28,hkl]
    rw [no2 hlast (by rw [hsc];simp)]
    exact ⟨_,rfl,tm⟩
  | false =>
    simp +decide only [go_sem,WR,WS,hsz,e0,e4,e26,e27,e28,hkl,i1,f1]
    refine Zaa Kok (Nat.le_refl _) (ZaI D h tk Ya) fun r w x hr=> ?_
    obtain ⟨hw,tr⟩:=hr
    have hw:=hw.symm
    subst hw
    simp +decide only [go_sem,WR,WS,hsz]
    rw [yes hlast hsc]
    exact ⟨_,rfl,tr⟩
 obtain ⟨y,hy⟩:∃ y,D[k]? =some y:=⟨_,List.getElem?_eq_getElem Ya⟩
 have tk':=tk
 rw [← hDl] at tk'
 obtain ⟨b2,o2,cs2,hq,p2,p3,p4⟩:=tk'.one hy
 cases hq
 have j0:(0:Int)≤(k:Int):=Ya
 have j1:IntKind.i64.wrap ((k:Int)+1)=((k+1:Nat):Int):=Yd
 rw [ZhN hy] at hsc
 by_cases h39:y=39
 ·rw [if_pos h39] at hsc
  simp +decide only [go_sem,WR,WS,hsz,e0,e4,e26,e27,e28,hkl,j0,Int.toNat_natCast,p3,p4,h39,j1]
  exact next (k+1,!q) _ _ ⟨by simp only;omega,Yb,rfl,Ye,Yb,by simp +decide only [go_sem,hsz,e26],YG,Yb,hsc⟩ Yk
 rw [if_neg h39] at hsc
 by_cases hl:y=9053
 ·cases q with
  | false =>
    rw [if_pos ⟨hl,rfl⟩] at hsc
    simp +decide only [go_sem,WR,WS,hsz,e0,e4,e26,e27,e28,hkl,j0,Int.toNat_natCast,p3,p4,h39,hl]
    rw [no2 hlast (by rw [hsc];simp)]
    exact ⟨_,rfl,tm⟩
  | true =>
    rw [if_neg Yp] at hsc
    simp +decide only [go_sem,WR,WS,hsz,e0,e4,e26,e27,e28,hkl,j0,Int.toNat_natCast,p3,p4,h39,hl,j1]
    exact next (k+1,true) _ _ ⟨by simp only;omega,Yb,rfl,Ye,Yg,by simp +decide only [go_sem,hsz,e26],YG,Yb,hsc⟩ Yk
 ·rw [if_neg (fun hh=>hl hh.1)] at hsc
  simp +decide only [go_sem,WR,WS,hsz,e0,e4,e26,e27,e28,hkl,j0,Int.toNat_natCast,p3,p4,h39,hl,j1]
  exact next (k+1,q) _ _ ⟨by simp only;omega,Yb,rfl,Ye,Yg,by simp +decide only [go_sem,hsz,e26],YG,Yb,hsc⟩ Yk
theorem ZlB (l:List Int) (h:Heap) {tv:Value} (t:Ln h tv l) (hm:l.length≤1000000):Runs K 14 #[tv] h fun r w=>w=h∧∃ v,r= .tuple #[v,.bool (ZbC l).2]∧Ln h v (ZbC l).1:=by
 refine Runs.of Kok (Does.intro rfl Yf Tryz.func14 rfl ?_)
 simp +decide only [go_sem,WR,WS]
 refine Zaa Kok (Nat.le_refl _) (Zcj l h t Ya) fun r w x hr=> ?_
 obtain ⟨hw,tm⟩:=hr
 have hw:=hw.symm
 subst hw
 obtain ⟨m,hm'⟩:∃ m,m=trimS l:=⟨_,rfl⟩
 rw [← hm'] at tm
 have hml:m.length≤l.length:=by rw [hm'];exact ZbK l
 obtain ⟨a,c,rfl⟩:=tm.open
 have no:m.getLast? ≠some 8711→ZbC l=(m,false):=fun hh=>by rw [hm'] at hh ⊢;exact ZmJ hh
 have no2:m.getLast? =some 8711→Zcb false m.dropLast≠some false→ZbC l=(m,false):=fun h1 h2=>by rw [hm'] at h1 h2 ⊢;exact ZmI h1 h2
 have yes:m.getLast? =some 8711→Zcb false m.dropLast=some false→ZbC l=(trimS m.dropLast,true):=fun h1 h2=>by rw [hm'] at h1 h2 ⊢;exact ZmH h1 h2
 by_cases h0:m.length=0
 ·have:m=[]:=List.eq_nil_of_length_eq_zero h0
  have i1:IntKind.i64.wrap (((m.length:Nat):Int) - 1)= -1:=Yd
  simp +decide only [go_sem,WR,WS,i1]
  rw [no (by rw [this];simp)]
  exact ⟨_,rfl,tm⟩
 obtain ⟨x,hx⟩:∃ x,m[m.length - 1]? =some x:=⟨_,List.getElem?_eq_getElem Ya⟩
 have hlast:=last_at hx
 obtain ⟨b,o,cs,hq,q2,q3,q4⟩:=tm.one hx
 cases hq
 have i1:IntKind.i64.wrap (((m.length:Nat):Int) - 1)=((m.length - 1:Nat):Int):=Yd
 have c0:(0:Int)≤((m.length - 1:Nat):Int):=Ya
 have c00:¬ ((m.length - 1:Nat):Int) < 0:=Ya
 have c1:((m.length - 1:Nat):Int) < ((m.length:Nat):Int):=Ya
 by_cases hd:x=8711
 case neg =>
  simp +decide only [go_sem,WR,WS,i1,c0,c00,c1,Int.toNat_natCast,q3,q4,hd]
  rw [no (by rw [hlast];simp [hd])]
  exact ⟨_,rfl,tm⟩
 rw [hd] at hlast
 obtain ⟨a',c',f1,tk⟩:=tm.cut (lo:=none) (hi:=some (.int .i64 ((m.length - 1:Nat):Int))) (x:=0) (y:=m.length - 1) rfl Yz (Nat.zero_le _) Ya
 rw [List.drop_zero,Nat.sub_zero,← List.dropLast_eq_take] at tk
 rw [Nat.sub_zero] at f1
 obtain ⟨D,hD⟩:∃ D,D=m.dropLast:=⟨_,rfl⟩
 rw [← hD] at tk no2 yes
 have hDl:D.length=m.length - 1:=by rw [hD];simp
 have hDm:∀ {k y},D[k]? =some y→m[k]? =some y:=fun hy=>by
  rw [hD,List.getElem?_dropLast] at hy
  split at hy
  ·exact hy
  ·cases hy
 simp +decide only [go_sem,WR,WS,i1,c0,c00,c1,Int.toNat_natCast,q3,q4,hd]
 refine Zah (α:=Nat × Nat) (fun k e w=>k.1≤D.length∧k.2≤k.1∧e.size=53∧h=w∧e.get 0= .slice (some ⟨b,o,none⟩) m.length big∧e.get 4= .int .i64 ((m.length - 1:Nat):Int)∧e.get 5= .int .i64 (k.2:Int)∧e.get 6= .int .i64 (k.1:Int)∧Zcb false D=Zcb (decide (k.2%2=1)) (D.drop k.1)) (fun k=>D.length - k.1) (0,0) ?_ ?_
 ·exact ⟨Nat.zero_le _,Nat.le_refl _,Yc,rfl,Yc,Yc,by simp +decide only [go_sem];rfl,by simp +decide only [go_sem];rfl,by simp⟩
 rintro ⟨k,q⟩ e w ⟨hk,hq',hsz,hw,e0,e4,e5,e6,hsc⟩ next
 subst hw
 simp only at hk hq' e5 e6 hsc
 have two:(2:Int)≠0:=YI
 have hmod:((q:Nat):Int).tmod 2=((q%2:Nat):Int):=by rw [Int.tmod_eq_emod_of_nonneg Ya];omega
 by_cases hkl:(k:Int) < ((m.length - 1:Nat):Int)
 case neg =>
  have hke:k=D.length:=Ya
  rw [hke,List.drop_of_length_le (Nat.le_refl _),Zcb] at hsc
  by_cases hq1:((q%2:Nat):Int)=1
  ·have:q%2=1:=by omega
   simp +decide only [go_sem,WR,WS,hsz,e0,e4,e5,e6,hkl,two,hmod,hq1]
   rw [no2 hlast (by rw [hsc,this];simp)]
   exact ⟨_,rfl,tm⟩
  ·have:¬ q%2=1:=by omega
   simp +decide only [go_sem,WR,WS,hsz,e0,e4,e5,e6,hkl,two,hmod,hq1,f1]
   refine Zaa Kok (Nat.le_refl _) (Zcj D h tk Ya) fun r w x hr=> ?_
   obtain ⟨hw,tr⟩:=hr
   have hw:=hw.symm
   subst hw
   simp +decide only [go_sem,WR,WS,hsz]
   rw [yes hlast (by rw [hsc];simp [this])]
   exact ⟨_,rfl,tr⟩
 obtain ⟨y,hy⟩:∃ y,D[k]? =some y:=⟨_,List.getElem?_eq_getElem Ya⟩
 obtain ⟨b2,o2,cs2,hq,p2,p3,p4⟩:=tm.one (hDm hy)
 cases hq
 rw [q3] at p3
 cases p3
 have j0:(0:Int)≤(k:Int):=Ya
 have j2:(k:Int) < ((m.length:Nat):Int):=Ya
 have j1:IntKind.i64.wrap ((k:Int)+1)=((k+1:Nat):Int):=Yd
 have j3:IntKind.i64.wrap ((q:Int)+1)=((q+1:Nat):Int):=Yd
 rw [ZhN hy] at hsc
 by_cases h39:y=39
 ·rw [if_pos h39] at hsc
  have hne:¬ (39:Int)=9053:=YI
  simp +decide only [go_sem,WR,WS,hsz,e0,e4,e5,e6,hkl,j0,j2,Int.toNat_natCast,q3,p4,h39,j3,j1]
  refine next (k+1,q+1) _ _ ⟨by simp only;omega,by simp only;omega,Yb,rfl,Ye,Yg,Yb,Yb,?_⟩ Yk
  rw [hsc]
  congr 1
  by_cases hh:q%2=1
  ·have:¬ (q+1)%2=1:=by omega
   simp [hh,this]
  ·have:(q+1)%2=1:=by omega
   simp [hh,this]
 rw [if_neg h39] at hsc
 by_cases hl:y=9053
 ·by_cases hq0:((q%2:Nat):Int)=0
  ·have:¬ q%2=1:=by omega
   rw [if_pos ⟨hl,by simp [this]⟩] at hsc
   simp +decide only [go_sem,WR,WS,hsz,e0,e4,e5,e6,hkl,j0,j2,Int.toNat_natCast,q3,p4,h39,hl,two,hmod,hq0]
   rw [no2 hlast (by rw [hsc];simp)]
   exact ⟨_,rfl,tm⟩
  ·have:q%2=1:=by omega
   rw [if_neg (by simp [this])] at hsc
   simp +decide only [go_sem,WR,WS,hsz,e0,e4,e5,e6,hkl,j0,j2,Int.toNat_natCast,q3,p4,h39,hl,two,hmod,hq0,j1]
   exact next (k+1,q) _ _ ⟨by simp only;omega,by simp only;omega,Yb,rfl,Ye,Yg,Ym,Yb,hsc⟩ Yk
 ·rw [if_neg (fun hh=>hl hh.1)] at hsc
  simp +decide only [go_sem,WR,WS,hsz,e0,e4,e5,e6,hkl,j0,j2,Int.toNat_natCast,q3,p4,h39,hl,j1]
  exact next (k+1,q) _ _ ⟨by simp only;omega,by simp only;omega,Yb,rfl,Ye,Yg,Ym,Yb,hsc⟩ Yk
end Go.Proofs.YtachkofbmodnnaaGreat.E3
