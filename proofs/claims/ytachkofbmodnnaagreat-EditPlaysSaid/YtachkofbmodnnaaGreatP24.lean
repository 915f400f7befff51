/- Proved here: parts of the way to BEditPlays (BD8 BD9 BD10); no condition beyond those that each theorem names. -/
import Derived.Test.YtachkofbmodnnaaGreatP23
set_option linter.unusedSimpArgs false
set_option linter.unusedVariables false
namespace Go.Proofs.YtachkofbmodnnaaGreat.D8
open Go Go.Im Go.Im.Limbs Go.Im.Lexing Go.Im.Heads Go.Im.Editing Go.Im.Defn Go.Proofs Go.RowKit Hd H4 H5 E2 E7 D5
set_option maxRecDepth 100000
theorem Zns (n:Nat) (h:Heap) (hn:n≤9999999):Runs K 73 #[.int .i64 (n:Int)] h fun r w=>h=w∧r= .int .i64 ((ZcI n:Nat):Int):=by
 refine Runs.of Kok (Does.intro rfl Yf Tryz.func73 rfl ?_)
 simp +decide only [go_sem,WR,WS]
 refine Zah (α:=Nat) (fun s e w=>ZkZ n s∧e.size=11∧h=w∧e.get 0= .int .i64 (n:Int)∧e.get 3= .int .i64 ((s:Nat):Int)) (fun s=>s) 10000 ?_ ?_
 ·exact ⟨ZhK n,Yc,rfl,Yc,by simp +decide only [go_sem];rfl⟩
 rintro s e w ⟨I,hsz,hw,e0,e3⟩ next
 subst hw
 have s0:0 < s∧s≤10000:=by have:=I.1;omega
 have z:¬ ((s:Nat):Int)=0:=Ya
 by_cases c:n%s=0
 ·have c':((n%s:Nat):Int)=0:=by omega
  simp +decide only [go_sem,WR,WS,hsz,e0,e3,Za5 z,E7.wr,c']
  rw [Editing.step_end I c]
 ·have c':¬ ((n%s:Nat):Int)=0:=by omega
  have q:=wq (n:=s) (p:=10) Ya Ya
  have e10:((10:Nat):Int)=10:=rfl
  rw [e10] at q
  obtain ⟨J,lt⟩:=Editing.ZhL I c
  simp +decide only [go_sem,WR,WS,hsz,e0,e3,Za5 z,E7.wr,c',q]
  exact next (s / 10) _ _ ⟨J,Yb,rfl,Ye,Yb⟩ lt
theorem ZpT (l:List Int) (x:Int) (h:Heap) {tv:Value} (t:Ln h tv l) (hm:l.length≤1000000):Runs K 47 #[tv,.int .i32 x] h fun r w=>h=w∧r= .int .i64 (match idx l x with | some i=>(i:Int) | none=> -1):=by
 obtain ⟨a,c,rfl⟩:=t.open
 refine Runs.of Kok (Does.intro rfl Yf Tryz.func47 rfl ?_)
 simp +decide only [go_sem,WR,WS]
 refine Zah (α:=Nat) (fun i e w=>i≤l.length∧e.size=19∧h=w∧e.get 0= .slice a l.length c∧e.get 1= .int .i32 x∧e.get 7= .int .i64 ((l.length:Nat):Int)∧e.get 8= .int .i64 (i:Int)∧x ∉ l.take i) (fun i=>l.length - i) 0 ?_ ?_
 ·exact ⟨Nat.zero_le _,Yc,rfl,Yc,Yc,Yc,by simp +decide only [go_sem];rfl,by simp⟩
 rintro i e w ⟨hi,hsz,hw,e0,e1,e7,e8,hni⟩ next
 subst hw
 by_cases hil:(i:Int) < ((l.length:Nat):Int)
 ·have hy:l[i]? =some l[i]:=List.getElem?_eq_getElem Ya
  obtain ⟨b,o,cs,hq,q2,q3,q4⟩:=t.one hy
  cases hq
  have c0:(0:Int)≤(i:Int):=Ya
  have i1:IntKind.i64.wrap ((i:Int)+1)=((i+1:Nat):Int):=Yd
  by_cases hs:x=l[i]
  ·simp +decide only [go_sem,WR,WS,hsz,e0,e1,e7,e8,hil,c0,Int.toNat_natCast,q3,q4,← hs]
   rw [Zms (hs ▸ hy) hni]
  ·simp +decide only [go_sem,WR,WS,hsz,e0,e1,e7,e8,hil,c0,Int.toNat_natCast,q3,q4,hs,i1]
   exact next (i+1) _ _ ⟨by omega,Yb,rfl,Ye,Yh,Yi,Yb,fun hm=>by
    rw [List.take_add_one,hy,List.mem_append] at hm
    rcases hm with hm | hm
    ·exact hni hm
    ·exact hs (by simpa using hm)⟩ Ya
 ·simp +decide only [go_sem,WR,WS,hsz,e0,e1,e7,e8,hil]
  rw [List.take_of_length_le Ya] at hni
  rw [ZoM hni]
theorem ZeO (p:Nat × ByteArray) (n:Nat) (h:Heap) (hp:p.1≤9999999) (hn:n≤9999999):Runs K 87 #[.agg #[.int .i64 (p.1:Int),.string p.2],.int .i64 (n:Int)] h fun r w=>r= .int .i64 ((p.1:Int) - (n:Int)):=by
 refine Runs.of Kok (Does.intro rfl Yf Tryz.func87 rfl ?_)
 obtain ⟨w1,e1,x1,hs1,z1⟩:=lay1 h (.cells [.int .i64 (p.1:Int),.string p.2] 2)
 have i1:IntKind.i64.wrap ((p.1:Int) - (n:Int))=(p.1:Int) - (n:Int):=YW
 simp +decide only [go_sem,WR,WS,e1,z1,i1]
theorem Zqq (rows:Editing.Rows) (n:Nat) (h:Heap) {a:Option Addr} {c:Nat} (sl:Sl h 2 a rows.length c (erv rows)) (hr:Rise rows) (hm:rows.length≤1000) (hn:n≤9999999) (hnum:∀ p ∈ rows,p.1≤9999999) :
  Runs K 86 #[.slice a rows.length c,.int .i64 (n:Int),.func (.func 87) #[] #[]] h fun r w=>r= .tuple #[.int .i64 (((less n rows).length:Nat):Int),.bool (has n rows)]:=by
 refine Runs.of Kok (Does.intro rfl Yf Tryz.func86 rfl ?_)
 simp +decide only [go_sem,WR,WS]
 refine Zah (α:=Nat × Nat) (fun k e W=>k.1≤k.2∧k.2≤rows.length∧e.size=49∧Ext h W∧e.get 0= .slice a rows.length c∧e.get 1= .int .i64 (n:Int)∧e.get 2= .func (.func 87) #[] #[]∧e.get 8= .int .i64 ((rows.length:Nat):Int) ∧
  e.get 9= .int .i64 (k.1:Int)∧e.get 10= .int .i64 (k.2:Int)∧(∀ (j:Nat) (p:Nat × ByteArray),j < k.1→rows[j]? =some p→p.1 < n)∧(∀ (j:Nat) (p:Nat × ByteArray),k.2≤j→rows[j]? =some p→n≤p.1)) (fun k=>k.2 - k.1) (0,rows.length) ?_ ?_
 ·exact ⟨Nat.zero_le _,Nat.le_refl _,Yc,Ext.refl h,Yc,Yc,Yc,Yc,by simp +decide only [go_sem];rfl,Yc,by omega,fun j p hj hp=>by have:=(List.getElem?_eq_some_iff.1 hp).1;omega⟩
 rintro ⟨lo,hi⟩ e W ⟨h1,h2,hsz,xW,e0,e1,e2,e8,e9,e10,hlo,hhi⟩ next
 simp only at h1 h2 e9 e10 hlo hhi
 by_cases hil:(lo:Int) < (hi:Int)
 ·have hlt:lo < hi:=by omega
  obtain ⟨m,hm0⟩:∃ m,m=(lo+hi) / 2:=⟨_,rfl⟩
  have i1:IntKind.i64.wrap ((lo:Int)+(hi:Int))=((lo+hi:Nat):Int):=Yd
  have sh:∀ t,Zai Tryz.prog .shr t (.int .u64 ((lo+hi:Nat):Int)) (.int .u64 1)=some (.int .u64 (m:Int)):=fun t=>by
   have:=ishr (P:=Tryz.prog) (t:=t) (k:= .u64) (n:=lo+hi) (s:=1) Ya
   rw [hm0]
   simpa using this
  have hml:m < rows.length:=Ya
  have i2:IntKind.i64.wrap (m:Int)=(m:Int):=YW
  have i3:IntKind.i64.wrap ((m:Int)+1)=((m+1:Nat):Int):=Yd
  have c0:(0:Int)≤(m:Int):=Ya
  have c1:(m:Int) < ((rows.length:Nat):Int):=Ya
  obtain ⟨p,hp⟩:∃ p,rows[m]? =some p:=⟨_,List.getElem?_eq_getElem hml⟩
  have hpn:=hnum p (List.mem_of_getElem? hp)
  obtain ⟨b,o,cs,rfl,q2,q3,q4,q5,q6,q7⟩:=ZeU (sl.ext xW) hp
  simp +decide only [go_sem,WR,WS,hsz,e0,e1,e2,e8,e9,e10,hil,i1,w64 (show lo+hi < 18446744073709551616 by omega),sh,i2,c0,c1,Int.toNat_natCast,q3,q6,q7]
  refine Zaa Kok xW.1 (ZeO p n W hpn hn) fun r W2 x2 hr=> ?_
  subst hr
  have up:∀ (j:Nat) (q:Nat × ByteArray),rows[j]? =some q→(j < m→q.1 < p.1)∧(m < j→p.1 < q.1):=by
   intro j q hq
   obtain ⟨h3,h4⟩:=List.getElem?_eq_some_iff.1 hq
   obtain ⟨h5,h6⟩:=List.getElem?_eq_some_iff.1 hp
   have hpw:=List.pairwise_iff_getElem.1 hr
   exact ⟨fun hj=>by rw [← h4,← h6];exact hpw j m h3 h5 hj,fun hj=>by rw [← h4,← h6];exact hpw m j h5 h3 hj⟩
  by_cases c2:(p.1:Int) - (n:Int) < 0
  ·simp +decide only [go_sem,WR,WS,hsz,e9,c2,i3]
   refine next (m+1,hi) _ _ ⟨by simp only;omega,h2,Yb,xW.trans x2,Ye,Yh,Yr,Yu,Yb,YA,fun j q hj hq=> ?_,hhi⟩ Yk
   simp only at hj
   by_cases hjm:j=m
   ·subst hjm
    rw [hp] at hq
    cases hq
    omega
   ·have:=(up j q hq).1 Ya
    omega
  ·simp +decide only [go_sem,WR,WS,hsz,e9,c2]
   refine next (lo,m) _ _ ⟨by simp only;omega,by simp only;omega,Yb,xW.trans x2,Ye,Yh,Yr,Yu,Ys,Yb,hlo,fun j q hj hq=> ?_⟩ Yk
   simp only at hj
   by_cases hjm:j=m
   ·subst hjm
    rw [hp] at hq
    cases hq
    omega
   ·have:=(up j q hq).2 Ya
    omega
 ·have hk:hi=lo:=by omega
  subst hk
  have hl:=Zh4 hlo hhi
  have hll:(less n rows).length=hi:=by rw [hl,List.length_take];omega
  by_cases c1:(hi:Int) < ((rows.length:Nat):Int)
  ·have c0:(0:Int)≤(hi:Int):=by omega
   obtain ⟨p,hp⟩:∃ p,rows[hi]? =some p:=⟨_,List.getElem?_eq_getElem Ya⟩
   have hpn:=hnum p (List.mem_of_getElem? hp)
   obtain ⟨b,o,cs,rfl,q2,q3,q4,q5,q6,q7⟩:=ZeU (sl.ext xW) hp
   simp +decide only [go_sem,WR,WS,hsz,e0,e1,e2,e8,e9,e10,hil,c0,c1,Int.toNat_natCast,q3,q6,q7]
   refine Zaa Kok xW.1 (ZeO p n W hpn hn) fun r W2 x2 hr=> ?_
   subst hr
   simp +decide only [go_sem,WS,hsz,e9,c1]
   rw [hll]
   have hh:has n rows=decide ((p.1:Int) - (n:Int)=0):=by
    rcases Zbw (n:=n) hr with ⟨g1,g2⟩ | ⟨g1,t,g2⟩
    ·rw [g1]
     have:¬ (p.1:Int) - (n:Int)=0:=fun e=>by
      have:has n rows=true:=ZbA.2 ⟨p.2,by have:=List.mem_of_getElem? hp;rwa [show p=(n,p.2) from Prod.ext Yk rfl] at this⟩
      rw [g1] at this
      cases this
     simp [this]
    ·rw [g1]
     rw [g2,List.getElem?_append_right Ya,hll,Nat.sub_self] at hp
     simp only [List.getElem?_cons_zero,Option.some.injEq] at hp
     subst hp
     simp
   rw [hh]
  ·simp +decide only [go_sem,WR,WS,hsz,e0,e1,e2,e8,e9,e10,hil,c1]
   rw [hll]
   have hh:has n rows=false:=by
    rcases Zbw (n:=n) hr with ⟨g1,g2⟩ | ⟨g1,t,g2⟩
    ·exact g1
    ·have:=congrArg List.length g2
     rw [List.length_append,hll] at this
     simp at this
     omega
   rw [hh]
theorem Zj3 (x:EdT) (I:Inv x) (n:Nat) (hn:n≤9999999) (h:Heap) {v:Value} (V:EV h v x):Runs K 71 #[v,.int .i64 (n:Int)] h fun r w=>r= .tuple #[.int .i64 (((less n x.rows).length:Nat):Int),.bool (has n x.rows)]:=by
 obtain ⟨q,a,c,rfl,hq,hg,s⟩:=V
 refine Runs.of Kok (Does.intro rfl Yf Tryz.func71 rfl ?_)
 simp +decide only [go_sem,WR,WS,hg]
 refine Zaa Kok (Nat.le_refl _) (Zqq x.rows n h s I.rise (by have:=I.few;omega) hn I.nums) fun r w1 x1 hr=> ?_
 subst hr
 simp +decide only [go_sem,WS]
theorem Zjw (b:ByteArray):text b.data.toList=b:=rfl
theorem Ze8 (x:EdT) (I:Inv x) (f t:Int) (h:Heap) {v:Value} (V:EV h v x):Runs K 74 #[v,.int .i64 f,.int .i64 t] h fun r w=>Own h.size w 1 r (Zba x.rows f t).length (sv (Zba x.rows f t)):=by
 obtain ⟨q,a,c,rfl,hq,hg,s⟩:=V
 refine Runs.of Kok (Does.intro rfl Yf Tryz.func74 rfl ?_)
 obtain ⟨n,hn⟩:∃ n,n=x.rows.length:=⟨_,rfl⟩
 have hfew:=I.few
 have b1:(⟨#[91]⟩:ByteArray)=text [91]:=rfl
 have b2:(⟨#[93,32]⟩:ByteArray)=text [93,32]:=rfl
 rw [← hn] at hg s
 simp +decide only [go_sem,WR,WS,hg]
 refine Zah (α:=Nat × Value) (fun i e W=>i.1≤n∧e.size=42∧Ext h W∧e.get 1= .int .i64 f∧e.get 2= .int .i64 t∧e.get 7=i.2∧Own h.size W 1 i.2 (Zba (x.rows.take i.1) f t).length (sv (Zba (x.rows.take i.1) f t))∧e.get 13= .slice a n c∧e.get 14= .int .i64 ((n:Nat):Int)∧e.get 15= .int .i64 (i.1:Int)) (fun i=>n - i.1) (0,.slice none 0 0) ?_ ?_
 ·exact ⟨Nat.zero_le _,Yc,Ext.refl h,Yc,Yc,Yc,Own.nil _ _ _,Yc,Yc,by simp +decide only [go_sem];rfl⟩
 rintro ⟨i,u⟩ e W ⟨hi,hsz,xW,e1,e2,e7,own,e13,e14,e15⟩ next
 simp only at hi e7 own e15
 by_cases hil:(i:Int) < ((n:Nat):Int)
 ·obtain ⟨p,hp⟩:∃ p,x.rows[i]? =some p:=⟨_,List.getElem?_eq_getElem Ya⟩
  have hpm:=List.mem_of_getElem? hp
  have hpn:=I.nums p hpm
  have hps:=I.sizes p hpm
  have sW:=s.ext xW
  rw [hn] at sW
  obtain ⟨b,o,cs,rfl,q2,q3,q4,q5,q6,q7⟩:=ZeU sW hp
  have c0:(0:Int)≤(i:Int):=Ya
  have i1:IntKind.i64.wrap ((i:Int)+1)=((i+1:Nat):Int):=Yd
  have sn:=ZhM hp f t
  obtain ⟨w2,f2,x2,hs2,z2⟩:=lay1 W (.cells [.int .i64 0,.string ByteArray.empty] 2)
  obtain ⟨w3,f3,x3,hs3,z3,k3⟩:=put1 (x2) (Nat.le_refl _) (.cells [.int .i64 (p.1:Int),.string p.2] 2)
  have jW:h.size≤W.size:=xW.1
  by_cases hc:f≤(p.1:Int)∧(p.1:Int)≤t
  ·rw [if_pos hc] at sn
   simp +decide only [go_sem,WR,WS,hsz,e1,e2,e7,e13,e14,e15,hil,c0,Int.toNat_natCast,q3,q6,q7,f2,z2,jW,f3,z3,hc.1,hc.2]
   refine Zaa Kok (xW.trans x3).1 (Zgu p.1 w3 hpn) fun r w4 x4 hr=> ?_
   subst hr
   have z4:w4.get W.size= .cells [.int .i64 (p.1:Int),.string p.2] 2:=(x4.2 _ Ya).trans z3
   have nl:=ZgY hpn
   have cat1:=ZbF (P:=Tryz.prog) (t:=9) (a:=[91]) (b:=numT p.1) Yl
   have cat2:=ZbF (P:=Tryz.prog) (t:=9) (a:=91::numT p.1) (b:=[93,32]) Yl
   have cat3:=ZbF (P:=Tryz.prog) (t:=9) (a:=91::(numT p.1++[93,32])) (b:=p.2.data.toList) (by have e:p.2.data.toList.length=p.2.size:=rfl;simp only [List.length_cons,List.length_append,e];simp;omega)
   rw [List.cons_append] at cat1 cat2 cat3
   rw [List.nil_append] at cat1
   rw [Zjw,List.append_assoc] at cat3
   have cat3:Zai Tryz.prog .add 9 (.string (text (91::(numT p.1++[93,32])))) (.string p.2)=some (.string (Zdm p)):=cat3
   have hcnt:(Zba (x.rows.take i) f t).length≤201:=Nat.le_trans (ZdT _ _ _) (by rw [List.length_take];omega)
   obtain ⟨w5,f5,x5,hs5,z5⟩:=lay1 w4 (.cells [.string (Zdm p)] 1)
   obtain ⟨w6,f6,o6,hs6,x6⟩:=Za6 (low:=h.size) (bytes:=16) (k:=1) (new:=[.string (Zdm p)]) (Nat.le_refl _) (xW.trans (x3.trans (x4.trans x5))) (own.ext (x3.trans (x4.trans x5))) Ya Ya rfl Ya Ya
   have es:sv (Zba (x.rows.take (i+1)) f t)=sv (Zba (x.rows.take i) f t)++[.string (Zdm p)]:=by rw [sn,Za8];rfl
   have el:(Zba (x.rows.take (i+1)) f t).length=(Zba (x.rows.take i) f t).length+1:=by rw [sn];simp
   rw [← es,← el] at o6
   rw [← el] at f6
   simp +decide only [go_sem,WR,WS,hsz,e7,e15,b1,b2,cat1,cat2,cat3,z4,f5,z5,f6,i1]
   exact next (i+1,.slice (some ⟨w5.size,0,none⟩) (Zba (x.rows.take (i+1)) f t).length big) _ _ ⟨by simp only;omega,Yb,x6,Yh,Yr,Yb,o6,Yx,YE,Yb⟩ Yk
  ·rw [if_neg hc,List.append_nil] at sn
   by_cases hc1:f≤(p.1:Int)
   ·have hc2:¬ (p.1:Int)≤t:=fun hh=>hc ⟨hc1,hh⟩
    simp +decide only [go_sem,WR,WS,hsz,e1,e2,e7,e13,e14,e15,hil,c0,Int.toNat_natCast,q3,q6,q7,f2,z2,jW,f3,z3,hc1,hc2,i1]
    exact next (i+1,u) _ _ ⟨by simp only;omega,Yb,xW.trans x3,Yh,Yr,Yi,by rw [sn];exact own.ext x3,Yx,YE,Yb⟩ Yk
   ·simp +decide only [go_sem,WR,WS,hsz,e1,e2,e7,e13,e14,e15,hil,c0,Int.toNat_natCast,q3,q6,q7,f2,z2,jW,f3,z3,hc1,i1]
    exact next (i+1,u) _ _ ⟨by simp only;omega,Yb,xW.trans x3,Yh,Yr,Yi,by rw [sn];exact own.ext x3,Yx,YE,Yb⟩ Yk
 ·have hin:i=n:=by omega
  subst hin
  simp +decide only [go_sem,WR,WS,hsz,e7,e14,e15,hil]
  rw [List.take_of_length_le Ya] at own
  exact own
theorem Zo4 (x:EdT) (I:Inv x) (n:Nat) (h:Heap) {v:Value} (V:EV h v x):Runs K 76 #[v,.int .i64 (n:Int)] h fun r w=>h=w∧r= .int .i64 (if has n x.rows=true then (((less n x.rows).length:Nat):Int) else -1):=by
 obtain ⟨q,a,c,rfl,hq,hg,s⟩:=V
 refine Runs.of Kok (Does.intro rfl Yf Tryz.func76 rfl ?_)
 obtain ⟨m,hm⟩:∃ m,m=x.rows.length:=⟨_,rfl⟩
 have hfew:=I.few
 rw [← hm] at hg s
 simp +decide only [go_sem,WR,WS]
 refine Zah (α:=Nat) (fun i e W=>i≤m∧e.size=26∧h=W∧e.get 0= .pointer (some ⟨q,0,none⟩)∧e.get 1= .int .i64 (n:Int)∧e.get 5= .int .i64 (i:Int)∧∀ (j:Nat) (p:Nat × ByteArray),j < i→x.rows[j]? =some p→p.1≠n) (fun i=>m - i) 0 ?_ ?_
 ·exact ⟨Nat.zero_le _,Yc,rfl,Yc,Yc,by simp +decide only [go_sem];rfl,by omega⟩
 rintro i e W ⟨hi,hsz,hw,e0,e1,e5,hno⟩ next
 subst hw
 by_cases hil:(i:Int) < ((m:Nat):Int)
 ·obtain ⟨p,hp⟩:∃ p,x.rows[i]? =some p:=⟨_,List.getElem?_eq_getElem Ya⟩
  have s':=s
  rw [hm] at s'
  obtain ⟨b,o,cs,rfl,q2,q3,q4,q5,q6,q7⟩:=ZeU s' hp
  have c0:(0:Int)≤(i:Int):=Ya
  have i1:IntKind.i64.wrap ((i:Int)+1)=((i+1:Nat):Int):=Yd
  by_cases hc:p.1=n
  ·obtain ⟨g1,g2⟩:=Zqu I.rise hp
   rw [hc] at g1 g2 q4
   simp +decide only [go_sem,WR,WS,hsz,e0,e1,e5,hg,hil,c0,Int.toNat_natCast,q3,q4]
   rw [if_pos g1,g2]
  ·have hc':¬ (p.1:Int)=(n:Int):=by omega
   simp +decide only [go_sem,WR,WS,hsz,e0,e1,e5,hg,hil,c0,Int.toNat_natCast,q3,q4,hc',i1]
   refine next (i+1) _ _ ⟨by omega,Yb,rfl,Ye,Yh,Yb,fun j p' hj hp'=> ?_⟩ Ya
   by_cases e:j=i
   ·subst e
    rw [hp] at hp'
    cases hp'
    exact hc
   ·exact hno j p' Ya hp'
 ·simp +decide only [go_sem,WR,WS,hsz,e0,e1,e5,hg,hil]
  have:¬ has n x.rows=true:=fun hh=>by
   obtain ⟨t,ht⟩:=ZbA.1 hh
   obtain ⟨j,hj⟩:=List.getElem?_of_mem ht
   have:=(List.getElem?_eq_some_iff.1 hj).1
   exact hno j _ Ya hj rfl
  rw [if_neg this]
theorem ZfB (x:EdT) (I:Inv x) (f t:Int) (h:Heap) {v:Value} (V:EV h v x):Runs K 77 #[v,.int .i64 f,.int .i64 t] h fun r w=>Own h.size w 1 r (Zba x.rows f t).length (sv (Zba x.rows f t)):=by
 obtain ⟨q,a,c,rfl,hq,hg,s⟩:=V
 refine Runs.of Kok (Does.intro rfl Yf Tryz.func77 rfl ?_)
 obtain ⟨n,hn⟩:∃ n,n=x.rows.length:=⟨_,rfl⟩
 have hfew:=I.few
 have b1:(⟨#[91]⟩:ByteArray)=text [91]:=rfl
 have b2:(⟨#[93,32]⟩:ByteArray)=text [93,32]:=rfl
 rw [← hn] at hg s
 simp +decide only [go_sem,WR,WS]
 refine Zah (α:=Nat × Value) (fun i e W=>i.1≤n∧e.size=64∧Ext h W∧e.get 0= .pointer (some ⟨q,0,none⟩)∧e.get 1= .int .i64 f∧e.get 2= .int .i64 t∧e.get 7=i.2∧Own h.size W 1 i.2 (Zba (x.rows.take i.1) f t).length (sv (Zba (x.rows.take i.1) f t))∧e.get 8= .int .i64 (i.1:Int)) (fun i=>n - i.1) (0,.slice none 0 0) ?_ ?_
 ·exact ⟨Nat.zero_le _,Yc,Ext.refl h,Yc,Yc,Yc,Yc,Own.nil _ _ _,by simp +decide only [go_sem];rfl⟩
 rintro ⟨i,u⟩ e W ⟨hi,hsz,xW,e0,e1,e2,e7,own,e8⟩ next
 simp only at hi e7 own e8
 have gW:W.get q=_:=(xW.2 q hq).trans hg
 by_cases hil:(i:Int) < ((n:Nat):Int)
 ·obtain ⟨p,hp⟩:∃ p,x.rows[i]? =some p:=⟨_,List.getElem?_eq_getElem Ya⟩
  have hpm:=List.mem_of_getElem? hp
  have hpn:=I.nums p hpm
  have hps:=I.sizes p hpm
  have sW:=s.ext xW
  rw [hn] at sW
  obtain ⟨b,o,cs,rfl,q2,q3,q4,q5,q6,q7⟩:=ZeU sW hp
  have c0:(0:Int)≤(i:Int):=Ya
  have i1:IntKind.i64.wrap ((i:Int)+1)=((i+1:Nat):Int):=Yd
  have sn:=ZhM hp f t
  by_cases hc:f≤(p.1:Int)∧(p.1:Int)≤t
  ·rw [if_pos hc] at sn
   simp +decide only [go_sem,WR,WS,hsz,e0,e1,e2,e7,e8,gW,hil,c0,Int.toNat_natCast,q3,q4,hc.1,hc.2]
   refine Zaa Kok xW.1 (Zdx p.1 W hpn) fun r w4 x4 hr=> ?_
   subst hr
   have g4:w4.get q=_:=(x4.2 q (by have:=xW.1;omega)).trans gW
   have q3':(w4.get b).read= .cells cs 2:=by rw [x4.2 b q2];exact q3
   have nl:=ZgY hpn
   have cat1:=ZbF (P:=Tryz.prog) (t:=9) (a:=[91]) (b:=numT p.1) Yl
   have cat2:=ZbF (P:=Tryz.prog) (t:=9) (a:=91::numT p.1) (b:=[93,32]) Yl
   have cat3:=ZbF (P:=Tryz.prog) (t:=9) (a:=91::(numT p.1++[93,32])) (b:=p.2.data.toList) (by have e:p.2.data.toList.length=p.2.size:=rfl;simp only [List.length_cons,List.length_append,e];simp;omega)
   rw [List.cons_append] at cat1 cat2 cat3
   rw [List.nil_append] at cat1
   rw [Zjw,List.append_assoc] at cat3
   have cat3:Zai Tryz.prog .add 9 (.string (text (91::(numT p.1++[93,32])))) (.string p.2)=some (.string (Zdm p)):=cat3
   have hcnt:(Zba (x.rows.take i) f t).length≤201:=Nat.le_trans (ZdT _ _ _) (by rw [List.length_take];omega)
   obtain ⟨w5,f5,x5,hs5,z5⟩:=lay1 w4 (.cells [.string (Zdm p)] 1)
   obtain ⟨w6,f6,o6,hs6,x6⟩:=Za6 (low:=h.size) (bytes:=16) (k:=1) (new:=[.string (Zdm p)]) (Nat.le_refl _) (xW.trans (x4.trans x5)) (own.ext (x4.trans x5)) Ya Ya rfl Ya Ya
   have es:sv (Zba (x.rows.take (i+1)) f t)=sv (Zba (x.rows.take i) f t)++[.string (Zdm p)]:=by rw [sn,Za8];rfl
   have el:(Zba (x.rows.take (i+1)) f t).length=(Zba (x.rows.take i) f t).length+1:=by rw [sn];simp
   rw [← es,← el] at o6
   rw [← el] at f6
   simp +decide only [go_sem,WR,WS,hsz,e0,e7,e8,g4,hil,c0,Int.toNat_natCast,b1,b2,cat1,cat2,cat3,q3',q5,f5,z5,f6,i1]
   exact next (i+1,.slice (some ⟨w5.size,0,none⟩) (Zba (x.rows.take (i+1)) f t).length big) _ _ ⟨by simp only;omega,Yb,x6,Ye,Yh,Yr,Yb,o6,Yb⟩ Yk
  ·rw [if_neg hc,List.append_nil] at sn
   by_cases hc1:f≤(p.1:Int)
   ·have hc2:¬ (p.1:Int)≤t:=fun hh=>hc ⟨hc1,hh⟩
    simp +decide only [go_sem,WR,WS,hsz,e0,e1,e2,e7,e8,gW,hil,c0,Int.toNat_natCast,q3,q4,hc1,hc2,i1]
    exact next (i+1,u) _ _ ⟨by simp only;omega,Yb,xW,Ye,Yh,Yr,Yi,by rw [sn];exact own,Yb⟩ Yk
   ·simp +decide only [go_sem,WR,WS,hsz,e0,e1,e2,e7,e8,gW,hil,c0,Int.toNat_natCast,q3,q4,hc1,i1]
    exact next (i+1,u) _ _ ⟨by simp only;omega,Yb,xW,Ye,Yh,Yr,Yi,by rw [sn];exact own,Yb⟩ Yk
 ·have hin:i=n:=by omega
  subst hin
  simp +decide only [go_sem,WR,WS,hsz,e0,e7,e8,gW,hil]
  rw [List.take_of_length_le Ya] at own
  exact own
end Go.Proofs.YtachkofbmodnnaaGreat.D8
namespace Go.Im.Editing
open Go Go.Im Go.Im.Lexing Go.Im.Heads Go.Im.Defn
def Frm (F:Nat→Prop) (w w':Heap):Prop:=w.size≤w'.size∧∀ b,b < w.size→¬ F b→w'.get b=w.get b
theorem Frm.refl (F:Nat→Prop) (w:Heap):Frm F w w:=⟨Nat.le_refl _,fun _ _ _=>rfl⟩
theorem Frm.trans {F:Nat→Prop} {a b c:Heap} (h:Frm F a b) (k:Frm F b c):Frm F a c:=⟨Nat.le_trans h.1 k.1,fun i hi hf=>(k.2 i (by have:=h.1;omega) hf).trans (h.2 i hi hf)⟩
theorem Frm.ext {F:Nat→Prop} {a b:Heap} (k:Ext a b):Frm F a b:=⟨k.1,fun i hi _=>k.2 i hi⟩
theorem Frm.set {F:Nat→Prop} {w:Heap} {b:Nat} (hb:F b) (x:Blk):Frm F w (w.set b x):=⟨Nat.le_refl _,fun i _ hf=>by rw [Heap.Zae,if_neg (by rintro rfl;exact hf hb)]⟩
theorem Frm.weaken {F G:Nat→Prop} {a b:Heap} (h:Frm F a b) (hfg:∀ i,i < a.size→F i→G i):Frm G a b:=⟨h.1,fun i hi hg=>h.2 i hi fun hf=>hg (hfg i hi hf)⟩
def SlF (w:Heap) (F:Nat→Prop) (size:Nat) (a:Option Addr) (n c:Nat) (xs:List Value):Prop:=Sl w size a n c xs∧(0 < c→∀ ad,a=some ad→¬ F ad.block)
theorem SlF.frm {w w':Heap} {F:Nat→Prop} (k:Frm F w w') {size:Nat} {a:Option Addr} {n c:Nat} {xs:List Value} (s:SlF w F size a n c xs):SlF w' F size a n c xs:=by
 obtain ⟨s,hf⟩:=s
 refine ⟨?_,hf⟩
 rcases s with h1 | h1 | ⟨b,o,cs,h1,h2,h3,h4,h5⟩
 ·exact .inl h1
 ·exact .inr (.inl h1)
 ·exact .inr (.inr ⟨b,o,cs,h1,h2,by have:=k.1;omega,by rw [k.2 b h3 (hf h2 _ h1)];exact h4,h5⟩)
theorem SlF.weaken {w:Heap} {F G:Nat→Prop} (hg:∀ b,b < w.size→G b→F b) {size:Nat} {a:Option Addr} {n c:Nat} {xs:List Value} (s:SlF w F size a n c xs):SlF w G size a n c xs:=by
 obtain ⟨s,hf⟩:=s
 refine ⟨s,fun hc ad ha hgb=> ?_⟩
 rcases s with ⟨_,_,h1,_⟩ | ⟨_,_,_,_,h1,_⟩ | ⟨b,o,cs,h1,h2,h3,h4,h5⟩
 ·omega
 ·omega
 ·rw [h1] at ha
  cases ha
  exact hf hc _ h1 (hg b h3 hgb)
theorem ZcT {low:Nat} {w:Heap} {size n:Nat} {a:Option Addr} {c:Nat} {xs:List Value} (H:Own low w size (.slice a n c) n xs) {F:Nat→Prop} (hF:∀ b,low≤b→¬ F b):SlF w F size a n c xs:=by
 refine ⟨H.sl,fun hc ad ha=> ?_⟩
 rcases H with ⟨h1,_⟩ | ⟨b,h1,h2,_⟩
 ·cases h1
  cases ha
 ·cases h1
  cases ha
  exact hF b h2
structure EP (low:Nat) (w:Heap) (q b:Nat) (x:EdT):Prop where
 lq:low≤q
 hq:q < w.size
 lb:low≤b
 hb:b < w.size
 ne:q≠b
 ed:w.get q= .cells [.slice (some ⟨b,0,none⟩) x.rows.length big,.int .i64 (x.nx:Int)] 2
 row:∃ cs,w.get b= .cells cs 2∧x.rows.length*2≤cs.length∧cs.take (x.rows.length*2)=erv x.rows
theorem EP.ev {low:Nat} {w:Heap} {q b:Nat} {x:EdT} (E:EP low w q b x) (h0:0 < x.rows.length):EV w (.pointer (some ⟨q,0,none⟩)) x:=by
 obtain ⟨cs,h1,h2,h3⟩:=E.row
 exact ⟨q,_,_,rfl,E.hq,E.ed,.inr (.inr ⟨b,0,cs,rfl,by simp [big],E.hb,by rw [h1];rfl,by omega,by rw [List.drop_zero,h3],.inr rfl⟩)⟩
theorem EP.keep {low:Nat} {w w':Heap} {q b:Nat} {x:EdT} (E:EP low w q b x) (hs:w.size≤w'.size) (h1:w'.get q=w.get q) (h2:w'.get b=w.get b):EP low w' q b x :=
 ⟨E.lq,by have:=E.hq;omega,E.lb,by have:=E.hb;omega,E.ne,h1.trans E.ed,by rw [h2];exact E.row⟩
theorem EP.ext {low:Nat} {w w':Heap} (k:Ext w w') {q b:Nat} {x:EdT} (E:EP low w q b x):EP low w' q b x:=E.keep k.1 (k.2 q E.hq) (k.2 b E.hb)
theorem EP.frm {low:Nat} {w w':Heap} {F:Nat→Prop} (k:Frm F w w') {q b:Nat} {x:EdT} (E:EP low w q b x) (h1:¬ F q) (h2:¬ F b):EP low w' q b x:=E.keep k.1 (k.2 q E.hq h1) (k.2 b E.hb h2)
structure EQ (w:Heap) (F:Nat→Prop) (q:Nat) (x:EdT):Prop where
 hq:q < w.size
 ed:∃ a c,w.get q= .cells [.slice a x.rows.length c,.int .i64 (x.nx:Int)] 2∧SlF w F 2 a x.rows.length c (erv x.rows)
theorem EQ.ev {w:Heap} {F:Nat→Prop} {q:Nat} {x:EdT} (E:EQ w F q x):EV w (.pointer (some ⟨q,0,none⟩)) x:=by
 obtain ⟨a,c,h1,h2⟩:=E.ed
 exact ⟨q,a,c,rfl,E.hq,h1,h2.1⟩
theorem Zej (p:Nat × ByteArray) (r:Rows):erv (p::r)= .int .i64 (p.1:Int):: .string p.2::erv r:=rfl
theorem Zqa (L M:Rows) (n:Nat) (t s:ByteArray) (D:List Value):(erv (L++(n,t)::M)++D).take (L.length*2+1)++[.string s]++(erv (L++(n,t)::M)++D).drop (L.length*2+1+1)=erv (L++(n,s)::M)++D:=by
 have hl:=Zat L
 rw [ZaM,ZaM,Zej,Zej]
 generalize erv L=A at hl ⊢
 have e:∀ u:ByteArray,A++Value.int .i64 (n:Int)::Value.string u::erv M++D=(A++[Value.int .i64 (n:Int)])++(Value.string u::(erv M++D)):=by intro u;simp
 have e2:∀ u:ByteArray,A++Value.int .i64 (n:Int)::Value.string u::erv M++D=(A++[Value.int .i64 (n:Int),Value.string u])++(erv M++D):=by intro u;simp
 have t1:(A++Value.int .i64 (n:Int)::Value.string t::erv M++D).take (L.length*2+1)=A++[Value.int .i64 (n:Int)]:=by
  rw [e]
  exact List.take_left' (by simp [hl])
 have t2:(A++Value.int .i64 (n:Int)::Value.string t::erv M++D).drop (L.length*2+1+1)=erv M++D:=by
  rw [e2]
  exact List.drop_left' (by simp [hl])
 simp only [] at t1 t2 ⊢
 rw [t1,t2]
 simp
theorem ZmE (L M:Rows) (p:Nat × ByteArray):(erv (L++M)).take (L.length*2)++[.int .i64 (p.1:Int),.string p.2]++(erv (L++M)).drop (L.length*2)=erv (L++p::M):=by
 rw [ZaM,ZaM,Zej,List.take_left' (Zat L),List.drop_left' (Zat L)]
 simp
end Go.Im.Editing
namespace Go.Proofs.YtachkofbmodnnaaGreat.D9
open Go Go.Im Go.Im.Limbs Go.Im.Lexing Go.Im.Heads Go.Im.Editing Go.Im.Defn Go.Proofs Go.RowKit Hd H4 H5 E2 E7 D5 D8
set_option maxRecDepth 100000
theorem ZfV {h:Heap} {b o n l u size:Nat} {lo hi:Option Value} {cs:List Value} (hg:h.look b= .cells cs size) (hlo:Zag 0 lo=some l) (hhi:Zag n hi=some u) (hlu:l≤u) (hn:o+u*size≤cs.length) (hz:0 < size) :
  irsl (some (.slice size)) h (some ⟨b,o,none⟩) n big lo hi none=some (.slice (some ⟨b,o+l*size,none⟩) (u - l) big):=by
 have hdiv:u≤(cs.length - o) / size:=by
  rw [Nat.le_div_iff_mul_le hz]
  omega
 have hin:Zb2 n ((cs.length - o) / size) lo hi none=some (l,u,(cs.length - o) / size):=Zbc hlo hhi hlu hdiv
 have hnb:¬ big < big:=Ya
 simp only [irsl,if_neg hnb,hg,hin]
 simp
theorem Zmg {h:Heap} {b o n l u m size:Nat} {lo hi:Value} {k:IntKind} {cs:List Value} (hg:h.look b= .cells cs size) (hlo:Zag 0 (some lo)=some l) (hhi:Zag n (some hi)=some u) (hlu:l≤u) (hum:u≤m) (hn:o+m*size≤cs.length) (hz:0 < size) (hb:m < big) :
  irsl (some (.slice size)) h (some ⟨b,o,none⟩) n big (some lo) (some hi) (some (.int k (m:Int)))=some (.slice (some ⟨b,if m=l then o else o+l*size,none⟩) (u - l) (m - l)):=by
 have hdiv:m≤(cs.length - o) / size:=by
  rw [Nat.le_div_iff_mul_le hz]
  omega
 have hmx:Zag ((cs.length - o) / size) (some (.int k (m:Int)))=some m:=Yz
 have hin:Zb2 n ((cs.length - o) / size) (some lo) (some hi) (some (.int k (m:Int)))=some (l,u,m):=by
  simp only [Zb2,hlo,hhi,hmx]
  rw [if_pos ⟨hlu,hum,hdiv,fun _=>rfl⟩]
 have hnb:¬ big < big:=Ya
 simp only [irsl,if_neg hnb,hg,hin]
 simp [hb]
theorem ZpZ {low:Nat} {h:Heap} {size bytes b n k:Nat} {cs new:List Value} (hg:h.get b= .cells cs size) (hl:low≤b) (hn:new.length=k*size) (ho:(n+k)*size≤cs.length) (hb:2*(n+k)*bytes≤140737488355328) (hc:n+k≤4611686018427387904) :
  ∃ h1 C,iapp low h size bytes (.slice (some ⟨b,0,none⟩) n big) k (some new)=some (.slice (some ⟨b,0,none⟩) (n+k) big,h1)∧h1.get b= .cells C size∧C.length=cs.length∧C.take ((n+k)*size)=cs.take (n*size)++new∧h1.size=h.size∧∀ c,c≠b→h1.get c=h.get c:=by
 by_cases h0:k=0
 ·subst h0
  have:new=[]:=List.eq_nil_of_length_eq_zero Ya
  subst this
  refine ⟨h,cs,?_,hg,rfl,by simp,rfl,fun _ _=>rfl⟩
  simp only [iapp]
  rw [if_neg Ya,if_pos trivial]
  rfl
 ·have h1:n*size≤cs.length:=by rw [Nat.add_mul] at ho;omega
  refine ⟨h.set b (.cells (splice cs (0+n*size) new) size),_,?_,by rw [Heap.Zae,if_pos rfl],ZcA (by rw [Nat.add_mul] at ho;omega),?_,rfl,fun c hc=>by rw [Heap.Zae,if_neg hc]⟩
  ·simp only [iapp]
   rw [if_neg Ya,if_neg h0]
   simp only [iput,hg]
   rw [if_neg Yl,if_neg (Nat.lt_irrefl _),if_pos ⟨trivial,hl⟩,if_pos Ya]
  ·rw [Nat.zero_add,splice]
   have e1:(cs.take (n*size)).length=n*size:=Yl
   rw [List.take_left' (by rw [List.length_append,e1,hn,Nat.add_mul])]
theorem row_zero:Zca Tryz.prog 69=some (.agg #[.int .i64 0,.string ⟨#[]⟩]):=by kernel_rfl
theorem Zjj {low:Nat} {h:Heap} {b n i:Nat} {cs:List Value} (hl:low≤b) (hg:h.get b= .cells cs 2) (hn:n*2≤cs.length) (hi:i < n) (hm:n≤1000) :
  Does K low 75 #[.slice (some ⟨b,0,none⟩) n big,.int .i64 (i:Int),.int .i64 ((i+1:Nat):Int)] h fun r w=>r= .slice (some ⟨b,0,none⟩) (n - 1) big∧w.size=h.size∧(∀ c,c≠b→w.get c=h.get c) ∧
   ∃ cs',w.get b= .cells cs' 2∧cs'.length=cs.length∧cs'.take ((n - 1)*2)=cs.take (i*2)++(cs.take (n*2)).drop ((i+1)*2):=by
 refine Does.intro rfl Yf Tryz.func75 rfl ?_
 have hk:h.look b= .cells cs 2:=by rw [Heap.look,hg];rfl
 have ne:¬ (i:Int)=((i+1:Nat):Int):=Ya
 have e2:=ZfV (h:=h) (b:=b) (o:=0) (n:=n) (l:=0) (u:=i) (lo:=none) (hi:=some (.int .i64 (i:Int))) hk rfl Yz Ya Ya Ya
 have e3:=ZfV (h:=h) (b:=b) (o:=0) (n:=n) (l:=i+1) (u:=n) (lo:=some (.int .i64 ((i+1:Nat):Int))) (hi:=none) hk YF rfl Ya Ya Ya
 have e1:=Zmg (k:= .i64) (h:=h) (b:=b) (o:=0) (n:=n) (l:=i) (u:=i+1) (m:=n) (lo:= .int .i64 (i:Int)) (hi:= .int .i64 ((i+1:Nat):Int)) hk Yz YF Ya Ya Ya Ya YC
 obtain ⟨h1,C,q1,q2,q3,q4,q5,q6⟩:=ZpZ (low:=low) (bytes:=24) (n:=i - 0) (k:=n - (i+1)) (new:=(cs.drop ((i+1)*2)).take ((n - (i+1))*2)) hg hl Yl Ya Ya Ya
 rw [show i - 0+(n - (i+1))=n - 1 by omega] at q1 q4
 have hk1:h1.look b= .cells C 2:=by rw [Heap.look,q2];rfl
 have e4:=ZfV (h:=h1) (b:=b) (o:=0) (n:=n - 1) (l:=n - 1) (u:=n) (lo:=some (.int .i64 ((n - 1:Nat):Int))) (hi:=some (.int .i64 (n:Int))) hk1 Yz Yz Ya Ya Ya
 have e5:=Zgb (low:=low) (h:=h1) (t1:=70) (o:=0+(n - 1)*2) (n:=n - (n - 1)) (c:=big) Tryz.underlying70 X7.Zlm row_zero q2 hl Ya Ya rfl rfl Ya
 simp only [Nat.zero_add] at e3 e4 e5
 have g1:(i+1)*2+(n - (i+1))*2≤cs.length:=Ya
 simp +decide only [go_sem,WR,WS,hg,e1,e2,e3,ne,g1,q1,e4,e5]
 rw [show n - (n - 1)=1 by omega]
 obtain ⟨Z,hZ⟩:∃ Z,Z=(List.replicate 1 [Value.int IntKind.i64 0,Value.string ⟨#[]⟩]).flatten:=⟨_,rfl⟩
 have lZ:Z.length=2:=by rw [hZ];rfl
 rw [← hZ]
 have lC:(C.take ((n - 1)*2)).length=(n - 1)*2:=Yl
 refine ⟨q5,fun c hc=>by rw [if_neg hc];exact q6 c hc,_,rfl,?_,?_⟩
 ·simp only [List.length_append,List.length_drop,lC,lZ]
  omega
 ·rw [List.append_assoc,List.take_left' lC,q4,List.drop_take,show n*2 - (i+1)*2=(n - (i+1))*2 by omega]
  rfl
end Go.Proofs.YtachkofbmodnnaaGreat.D9
namespace Go.Proofs.YtachkofbmodnnaaGreat.D10
open Go Go.Im Go.Im.Limbs Go.Im.Lexing Go.Im.Heads Go.Im.Editing Go.Im.Defn Go.Proofs Go.RowKit Hd H2 H4 H5 H8 N23 D4 E2 E7 D5 D8 D9
set_option maxRecDepth 100000
theorem Zra {rows:Editing.Rows} {h:Heap} {a:Option Addr} {c:Nat} (s:Sl h 2 a rows.length c (erv rows)) (h0:0 < rows.length) (hm:rows.length≤1000) :
  Runs K 56 #[.slice a rows.length c] h fun r w=>Own h.size w 2 r rows.length (erv rows):=by
 refine Runs.of Kok (Does.intro rfl Yf Tryz.func56 rfl ?_)
 obtain ⟨w1,e1,x1,hs1,g1⟩:=lay1 h (.cells [] 2)
 obtain ⟨w2,e2,x2,hs2,g2⟩:=lay1 w1 (.cells (erv rows) 2)
 have e3:=Zhv (low:=h.size) (bytes:=24) (new:=erv rows) (k:=rows.length) g1 Ya h0 (Zat rows) Ya Ya
 rw [e2] at e3
 have hi:=(s.ext x1).isl
 obtain ⟨b,o,cs,rfl,_⟩:=s.at (i:=0) h0
 simp +decide only [go_sem,WR,WS,e1,hi,e3]
 exact .inr ⟨w1.size,rfl,x1.1,by omega,g2,Zat rows⟩
theorem ZnX:K.ext 72=some X7.ZgA:=rfl
theorem Zi9 {low:Nat} {h:Heap} {b n i vb vc:Nat} {cs:List Value} {p:Nat × ByteArray} (hlow:low≤h.size) (hl:low≤b) (hb:b < h.size) (hvb:vb < h.size) (hne:vb≠b) (hg:h.get b= .cells cs 2) (hn:n*2≤cs.length) (hi:i≤n) (h0:0 < n) (hm:n≤1000) (hv:h.get vb= .cells [.int .i64 (p.1:Int),.string p.2] 2) :
  Does K low 72 #[.slice (some ⟨b,0,none⟩) n big,.int .i64 (i:Int),.slice (some ⟨vb,0,none⟩) 1 vc] h fun r w=>r= .slice (some ⟨h.size+1,0,none⟩) (n+1) big∧w.size=h.size+2∧(∀ c,c < h.size→c≠b→w.get c=h.get c) ∧
   w.get (h.size+1)= .cells ((cs.take (n*2)).take (i*2)++[.int .i64 (p.1:Int),.string p.2]++(cs.take (n*2)).drop (i*2)) 2:=by
 have ha:X7.Zeg low #[.slice (some ⟨b,0,none⟩) n big,.int .i64 (i:Int),.slice (some ⟨vb,0,none⟩) 1 vc] h=some ⟨b,n,i,vb,0,vc,cs,[.int .i64 (p.1:Int),.string p.2]⟩:=by
  simp only [X7.Zeg]
  rw [if_pos ⟨hl,trivial,hne,trivial,trivial,by omega,by omega,h0,by omega⟩]
  simp only [hg,hv]
  rw [if_pos ⟨hn,by simp⟩]
  simp
 refine Zdd ZnX (v:= .slice (some ⟨h.size+1,0,none⟩) (n+1) big) (w:=X7.Zce h ⟨b,n,i,vb,0,vc,cs,[.int .i64 (p.1:Int),.string p.2]⟩) (by simp only [X7.ZgA,ha]) ⟨rfl,by simp [X7.Zce],fun c hc hcb=> ?_,?_⟩
 ·simp only [X7.Zce]
  rw [Heap.Zal,if_neg Yl,Heap.Zae,if_neg Ya,Heap.Zal,if_neg Yl,Heap.Zae,if_neg hcb]
 ·simp only [X7.Zce,X7.Zbk]
  rw [Heap.Zal,if_pos Yp]
  rfl
theorem ZeG {l:List Int}:Zeb 0 l=if (hdp l).2=true then some (txtB (hdp l).1) else none:=rfl
theorem ZeH {n:Nat} (h:n≠0) {l:List Int}:Zeb n l=if (lex l).isSome=true then some (runesBytes l) else none:=by rw [Zeb,if_neg h]
theorem ZjA {low:Nat} {h:Heap} (hlow:low≤h.size) {q b:Nat} {x:EdT} (E:EP low h q b x) (I:Inv x) {n:Nat} (hn:n≤9999999) {l:List Int} {tv:Value} (t:Ln h tv l) (htr:trimS l=l) (hm:l.length≤1000000) :
  Does K low 46 #[.pointer (some ⟨q,0,none⟩),.int .i64 (n:Int),tv] h fun r w=>∃ b',r= .bool (setS x n l).isSome∧EP low w q b' ((setS x n l).getD x)∧(b'=b∨h.size≤b')∧Frm (fun i=>i=q∨i=b) h w:=by
 obtain ⟨F,hF⟩:∃ F:Nat→Prop,F=fun i=>i=q∨i=b:=⟨_,rfl⟩
 have no:∀ {w:Heap},Ext h w→Zeb n l=none→∃ b',Value.bool false= .bool (setS x n l).isSome∧EP low w q b' ((setS x n l).getD x)∧(b'=b∨h.size≤b')∧Frm (fun i=>i=q∨i=b) h w:=by
  intro w xw hl
  have:setS x n l=none:=by simp only [setS,hl]
  rw [this]
  exact ⟨b,rfl,E.ext xw,.inl rfl,Frm.ext xw⟩
 obtain ⟨a,c,rfl⟩:=t.open
 refine Does.intro rfl Yf Tryz.func46 rfl ?_
 simp +decide only [go_sem,WR,WS]
 refine Zaa Kok hlow (ZaI l h t Ya) fun r w0 x0 hr=> ?_
 obtain ⟨hw,t0⟩:=hr
 have hw:=hw.symm
 subst hw
 rw [htr] at t0
 obtain ⟨a0,c0,rfl⟩:=t0.open
 have is0:=t0.Zaj
 simp +decide only [go_sem,WS,is0,ZbO]
 apply ZaW (α:=ByteArray) (fun s e W=>e.size=80∧Zeb n l=some s∧Ext h W∧e.get 0= .pointer (some ⟨q,0,none⟩)∧e.get 1= .int .i64 (n:Int)∧e.get 7= .string s)
 ·intro cont
  by_cases h0:(n:Int)=0
  ·have hn0:n=0:=by omega
   (rw [WR];simp +decide only [go_sem,WS,eq_true h0])
   (rw [WR];simp +decide only [go_sem,WS])
   refine Zaa Kok hlow (Zd0 l h t.tx Ya) fun r w1 x1 hr=> ?_
   obtain ⟨pa,pc,rfl,s1⟩:=hr
   have G:=Zdg l
   have hlz:Zeb n l=_:=(congrArg (Zeb · l) hn0).trans (ZeG (l:=l))
   generalize hX:hdp l=X at s1 G hlz ⊢
   obtain ⟨y,ok⟩:=X
   simp only at s1 G hlz
   obtain ⟨w2,e2,x2,hs2,z2⟩:=lay1 w1 (.cells [.string ByteArray.empty,.string ByteArray.empty,.string ByteArray.empty,.string ByteArray.empty,.slice none 0 0] 5)
   obtain ⟨w3,e3,x3,hs3,z3,k3⟩:=put1 x2 (Nat.le_refl _) (.cells (H2.hl y (.slice pa y.ls.length pc)) 5)
   have x03:=x1.trans x3
   have j1:low≤w1.size:=Nat.le_trans hlow x1.1
   have txr:=Zjv y w3 (s1.ext x3) (by have:=G.few;omega) (Zdh G)
   simp only [H2.hl] at e3 z3 txr
   cases ok with
   | false =>
     simp +decide only [go_sem,WR,WS,H2.hl,e2,z2,j1,e3]
     exact no x03 hlz
   | true =>
     simp +decide only [go_sem,WR,WS,H2.hl,e2,z2,j1,e3,z3]
     refine Zaa Kok (Nat.le_trans hlow x03.1) txr fun r w4 x4 hr=> ?_
     subst hr
     simp +decide only [go_sem,WS]
     exact cont (txtB y) _ _ ⟨Yc,hlz,x03.trans x4,Yc,Yc,Yc⟩
  ·have hn0:n≠0:=by omega
   (rw [WR];simp +decide only [go_sem,WS,h0])
   (rw [WR];simp +decide only [go_sem,WS])
   refine Zaa Kok hlow (ZaI l h t Ya) fun r w1 x1 hr=> ?_
   obtain ⟨hw,t1⟩:=hr
   have hw:=hw.symm
   subst hw
   rw [htr] at t1
   simp +decide only [go_sem,WS]
   refine Zaa Kok hlow (Zg7 h t1.tx) fun r w3 x3 hr=> ?_
   have hlm:=ZeH hn0 (l:=l)
   rcases hr with ⟨hlex,rfl⟩ | ⟨xs,xa,xc,hlex,hA,hxl,rfl,sx⟩
   ·rw [hlex] at hlm
    simp +decide only [go_sem,WR,WS]
    exact no x3 hlm
   ·rw [hlex] at hlm
    simp +decide only [go_sem,WS]
    (rw [WR];simp +decide only [go_sem,WS])
    exact cont (runesBytes l) _ _ ⟨Yc,hlm,x3,Yc,Yc,Yc⟩
 rintro s e W ⟨hsz,hs,xW,e0,e1,e7⟩
 have EW:=E.ext xW
 have h0r:0 < x.rows.length:=by
  obtain ⟨t,ht⟩:=ZbA.1 I.zero
  exact List.length_pos_of_mem ht
 (rw [WR];simp +decide only [go_sem,WS,hsz,e0,e1])
 refine Zaa Kok (Nat.le_trans hlow xW.1) (Zj3 x I n hn W (EW.ev h0r)) fun r W1 x1 hr=> ?_
 subst hr
 have E1:=EW.ext x1
 have xW1:=xW.trans x1
 have hfew:=I.few
 obtain ⟨cs,g1,g2,g3⟩:=E1.row
 have gq:=E1.ed
 obtain ⟨i,hi⟩:∃ i,i=(less n x.rows).length:=⟨_,rfl⟩
 have c0:(0:Int)≤(i:Int):=Ya
 rw [← hi]
 simp +decide only [go_sem,WS,hsz]
 apply ZaW (α:=Nat) (fun b' e W2=>e.size=80∧e.get 0= .pointer (some ⟨q,0,none⟩)∧e.get 1= .int .i64 (n:Int)∧EP low W2 q b' ⟨less n x.rows++(n,s)::more n x.rows,x.nx⟩∧(b'=b∨h.size≤b')∧Frm F h W2∧(has n x.rows=false→¬ 200 < x.rows.length))
 ·intro cont
  rcases Zbw (n:=n) I.rise with ⟨k1,k2⟩ | ⟨k1,t,k2⟩
  ·have kl:=congrArg List.length k2
   rw [List.length_append,← hi] at kl
   by_cases c200:(200:Int) < ((x.rows.length:Nat):Int)
   ·have hz:setS x n l=none:=by
     simp only [setS,hs]
     rw [if_pos ⟨k1,by omega⟩]
    simp +decide only [go_sem,WR,WS,hsz,k1,e0,gq,c200]
    rw [hz]
    exact ⟨b,rfl,E1,.inl rfl,Frm.ext xW1⟩
   ·(rw [WR];simp +decide only [go_sem,WS,hsz,k1])
    (rw [WR];simp +decide only [go_sem,WS,hsz,e0,gq,c200])
    obtain ⟨w2,f2,x2,hs2,z2⟩:=lay1 W1 (.cells [.int .i64 (n:Int),.string s] 2)
    (rw [WR];simp +decide only [go_sem,WS,hsz,e0,e1,e7,gq,f2])
    have z0:=E1.hb
    have z1:=E1.hq
    refine ZaQ rfl (Zi9 (h:=w2) (vc:=1) (i:=i) (p:=(n,s)) (Nat.le_trans hlow (xW1.trans x2).1) E1.lb Ya (show W1.size < w2.size by omega) Ya ((x2.2 b z0).trans g1) g2 Ya h0r Ya z2) fun r w3 hr=> ?_
    obtain ⟨rfl,hs3,k3,g4⟩:=hr
    have gq3:w3.get q=_:=(k3 q Ya E1.ne).trans ((x2.2 q z1).trans gq)
    obtain ⟨w4,f4⟩:∃ w4,w3.set q (.cells [.slice (some ⟨w2.size+1,0,none⟩) (x.rows.length+1) big,.int .i64 (x.nx:Int)] 2)=w4:=⟨_,rfl⟩
    have lq:=E1.lq
    simp +decide only [go_sem,WS,hsz,e0,gq3,lq,f4]
    refine cont (w2.size+1) _ _ ⟨Yb,Ye,Yh,⟨lq,by rw [← f4];simp only [Heap.size_set];omega,by have:=(xW1.trans x2).1;omega,by rw [← f4];simp only [Heap.size_set];omega,by omega,?_,?_⟩,.inr (by have:=xW1.1;omega),?_,fun _=>by omega⟩
    ·rw [← f4,Heap.Zae,if_pos rfl]
     have:(less n x.rows++(n,s)::more n x.rows).length=x.rows.length+1:=by simp;omega
     rw [this]
    ·refine ⟨_,by rw [← f4,Heap.Zae,if_neg Ya];exact g4,?_,?_⟩
     ·rw [g3,congrArg erv k2,hi,ZmE _ _ (n,s),Zat]
      exact Nat.le_refl _
     ·rw [g3,congrArg erv k2,hi,ZmE _ _ (n,s)]
      exact List.take_of_length_le (by rw [Zat];exact Nat.le_refl _)
    ·rw [hF]
     refine ((Frm.ext (xW1.trans x2)).trans (b:=w2) ?_).trans (b:=w3) ?_
     ·exact ⟨by omega,fun c hc hf=>k3 c hc fun e=>hf (.inr e)⟩
     ·rw [← f4]
      exact Frm.set (.inl rfl) _
  ·have kl:=congrArg List.length k2
   rw [List.length_append,← hi] at kl
   have c1:(i:Int) < ((x.rows.length:Nat):Int):=by simp at kl;omega
   (rw [WR];simp +decide only [go_sem,WS,hsz,k1])
   have lb:=E1.lb
   have hle:i*2+1+1≤cs.length:=Ya
   obtain ⟨w4,f4⟩:∃ w4,W1.set b (.cells (cs.take (i*2+1)++[.string s]++cs.drop (i*2+1+1)) 2)=w4:=⟨_,rfl⟩
   (rw [WR];simp +decide only [go_sem,WS,hsz,e0,e7,gq,c0,c1,Int.toNat_natCast,g1,lb,hle,f4])
   have rl:(less n x.rows++(n,s)::more n x.rows).length=x.rows.length:=by simp at kl ⊢;omega
   refine cont b _ _ ⟨Yb,Ye,Yh,⟨E1.lq,by rw [← f4];exact E1.hq,lb,by rw [← f4];exact E1.hb,E1.ne,?_,?_⟩,.inl rfl,?_,fun hh=>by rw [k1] at hh;cases hh⟩
   ·rw [← f4,Heap.Zae,if_neg E1.ne,rl]
    exact gq
   ·have hcs:cs=erv x.rows++cs.drop (x.rows.length*2):=by rw [← g3,List.take_append_drop]
    refine ⟨_,by rw [← f4,Heap.Zae,if_pos rfl],?_,?_⟩
    ·rw [rl]
     simp
     omega
    ·rw [hi,hcs,congrArg erv k2,Zqa]
     exact List.take_left' (by rw [Zat])
   ·rw [← f4,hF]
    exact (Frm.ext xW1).trans (Frm.set (.inr rfl) _)
 rintro b' e W2 ⟨hsz,e0,e1,E2,hb',fr,hfw⟩
 have hW2:low≤W2.size:=Nat.le_trans hlow fr.1
 (rw [WR];simp +decide only [go_sem,WS,hsz,e0,e1])
 refine Zaa Kok hW2 (Zns n W2 hn) fun r w5 x5 hr=> ?_
 obtain ⟨hw,rfl⟩:=hr
 subst hw
 have hst:=Zlf n
 have i1:IntKind.i64.wrap ((n:Int)+((ZcI n:Nat):Int))=((n+ZcI n:Nat):Int):=Yd
 have gq2:=E2.ed
 have lq:=E2.lq
 have em:min ((n+ZcI n:Nat):Int) 9999999=((min (n+ZcI n) 9999999:Nat):Int):=Ya
 simp +decide only [go_sem,WS,hsz,e0,e1,i1,gq2,lq,em]
 (rw [WR];simp +decide only [go_sem,WS,hsz])
 have hz:setS x n l=some ⟨less n x.rows++(n,s)::more n x.rows,min (n+ZcI n) 9999999⟩:=by
  simp only [setS,hs]
  rw [if_neg fun hh=>hfw hh.1 hh.2]
 rw [hz]
 obtain ⟨cs2,r1,r2,r3⟩:=E2.row
 refine ⟨b',rfl,⟨lq,E2.hq,E2.lb,E2.hb,E2.ne,?_,cs2,?_,r2,r3⟩,hb',?_⟩
 ·rw [Heap.Zae,if_pos rfl]
  rfl
 ·rw [Heap.Zae,if_neg (fun e=>E2.ne e.symm)]
  exact r1
 ·rw [hF] at fr
  exact fr.trans (Frm.set (.inl rfl) _)
end Go.Proofs.YtachkofbmodnnaaGreat.D10
